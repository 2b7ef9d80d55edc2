/- Regions: whatever the order. -/
import Derived.Test.YtadhbmnpokmgcaaGreatDoorA24
import Derived.OwnWalkIn
namespace Go.Abs
open Go Go.RowKit

/-- What is asked of operations that do something: calls of functions among them. -/
def OpSound (K : CodeP) (B : Nat) (w0 : World) (P : Program) (c : Ctx) (F : Fence) (nn : Nat) (r : Rec) : Prop :=
  ∀ (ν : Ren) (h : H) (w : World) (env : Env) (a : Act) (o : Oper) (Q : X × H → Prop), HR K B w0 ν h w → EvR ν env a o.op.operands.toList → kindOf c o.op = .does → (doesOp c r env h o.op).all Q →
    ∀ (next : Act → World → Prop) (Qx : Exit → Act → World → Prop), (∀ x h' v ν' w', Q (x, h') → XR ν' x v → HR K B w0 ν' h' w' → Ext ν h w ν' h' w' → next (a.put o.dst v) w') → o.wpIn F nn P a w next Qx

section
variable {F : Fence} {nn : Nat} {P : Program} {c : Ctx}

theorem notDefer_calm {env : Env} {o : Op} {x : X} (h : calmOp c env o = .ret x) : ∀ d, o ≠ .defer d := by
  rintro d rfl; cases h
theorem notDefer_kind {o : Op} (h : kindOf c o ≠ .calm) : ∀ d, o ≠ .defer d := by
  rintro d rfl; exact h rfl

theorem wpIn_value (hF : ∀ f, F.fn f) {o : Oper} {a : Act} {w w' : World} {v : Value} {next : Act → World → Prop} {Qx : Exit → Act → World → Prop} (hd : ∀ d, o.op ≠ .defer d)
    (hr : (execOp a.eval o).run P w = .ok (.value v) w') (hn : next (a.put o.dst v) w') : o.wpIn F nn P a w next Qx := by
  unfold Oper.wpIn
  refine ⟨fun f _ => hF f, ?_⟩
  rw [Oper.semAt_plain F a.eval o hd, hr]
  exact hn
end

def cnt (p : Nat → Bool) : Nat → Nat
  | 0 => 0
  | n + 1 => cnt p n + (if p n = true then 0 else 1)

theorem cnt_add {S : Nat → Bool} {i : Nat} (hS : S i = false) : ∀ n, i < n → cnt (RegCtx.add S i) n + 1 = cnt S n
  | 0, h => by omega
  | n + 1, h => by
    unfold cnt
    by_cases hn : n = i
    · subst hn
      have same : ∀ m, m ≤ n → cnt (RegCtx.add S n) m = cnt S m := by
        intro m
        induction m with
        | zero => intro _; rfl
        | succ m ih =>
          intro hm
          unfold cnt
          rw [ih (by omega), RegCtx.add_ne (by omega)]
      rw [same n (Nat.le_refl _), RegCtx.add_self, hS]
      simp
    · have := cnt_add hS n (by omega)
      rw [RegCtx.add_ne hn]
      omega

theorem cnt_zero {S : Nat → Bool} : ∀ n, cnt S n = 0 → ∀ i, i < n → S i = true
  | 0, _, i, h => by omega
  | n + 1, hc, i, h => by
    unfold cnt at hc
    by_cases hn : i = n
    · subst hn
      cases hS : S i with
      | true => rfl
      | false => rw [hS] at hc; simp at hc
    · exact cnt_zero n (by omega) i (by omega)

namespace RegCtx
section
variable {R : RegCtx} (ok : R.Ok) {F : Fence} {nn : Nat}

def doneOf (listed : Array Bool) : Nat → Bool := fun k => listed.getD k false

theorem doneOf_set {listed : Array Bool} {i : Nat} (h : i < listed.size) : doneOf (listed.setIfInBounds i true) = add (doneOf listed) i := by
  funext k
  unfold doneOf
  by_cases hk : k = i
  · subst hk
    rw [add_self]
    simp [Array.getD_eq_getD_getElem?, h]
  · rw [add_ne hk]
    have hki : i ≠ k := fun e => hk e.symm
    simp [Array.getD_eq_getD_getElem?, Array.getElem?_setIfInBounds, hki]

theorem mem_ready {listed : Array Bool} (hs : listed.size = R.ops.length) {i : Nat} :
    i ∈ Region.ready .any R.ops.toArray listed ↔ ∃ o : Oper, R.ops[i]? = some o ∧ doneOf listed i = false ∧ R.Ready (doneOf listed) o := by
  unfold Region.ready
  simp only [List.mem_filter, List.mem_range, List.size_toArray, Bool.and_eq_true, Bool.not_eq_true', List.getElem?_toArray]
  constructor
  · rintro ⟨hlt, h1, h2⟩
    have ho := List.getElem?_eq_getElem hlt
    rw [ho] at h2
    simp only [Option.map_some, Option.getD_some] at h2
    refine ⟨_, ho, ?_, fun e he hb => ?_⟩
    · have hlt2 : i < listed.size := by omega
      unfold doneOf
      simp only [Array.getD_eq_getD_getElem?, Array.getElem?_eq_getElem hlt2, Option.getD_some] at h1 ⊢
      exact h1
    · rw [Array.all_eq_true_iff_forall_mem] at h2
      have := h2 e (Array.mem_toList_iff.1 he)
      rw [hb] at this
      unfold doneOf
      simpa using this
  · rintro ⟨o, ho, h1, h2⟩
    have hlt := (List.getElem?_eq_some_iff.1 ho).1
    refine ⟨hlt, ?_, ?_⟩
    · have hlt2 : i < listed.size := by omega
      unfold doneOf at h1
      simp only [Array.getD_eq_getD_getElem?, Array.getElem?_eq_getElem hlt2, Option.getD_some] at h1 ⊢
      exact h1
    · rw [ho]
      simp only [Option.map_some, Option.getD_some]
      rw [Array.all_eq_true_iff_forall_mem]
      intro e he
      cases hb : Region.binds .any e with
      | false => rfl
      | true =>
        have := h2 e (Array.mem_toList_iff.2 he) hb
        unfold doneOf at this
        simpa using this

include ok in
theorem all_done {listed : Array Bool} (hs : listed.size = R.ops.length) (hr : Region.ready .any R.ops.toArray listed = []) : ∀ i, i < R.ops.length → doneOf listed i = true := by
  intro i
  induction i using Nat.strongRecOn with
  | ind i ih =>
    intro hi
    cases hd : doneOf listed i with
    | true => rfl
    | false =>
      have ho := List.getElem?_eq_getElem hi
      have : i ∈ Region.ready .any R.ops.toArray listed := (mem_ready hs).2 ⟨_, ho, hd, fun e he hb => by
        have := ok.facts.edges i _ ho e he hb
        exact ih _ this (by omega)⟩
      rw [hr] at this
      cases this

theorem envF_all {S : Nat → Bool} : ∀ m, (∀ i, i < m → S i = true) → envF R.E0 (dstOf R.ops) R.xs S m = R.E m
  | 0, _ => rfl
  | m + 1, h => by
    have ih := envF_all m (fun i hi => h i (by omega))
    unfold E at ih ⊢
    rw [envF, h m (by omega), ih, envF]

theorem finish {q : Nat} {S : Nat → Bool} {ν : Ren} {g : H} {a : Act} {w : World} (v : Inv R q S ν g a w) (hq : q < R.ops.length → R.isDoes q) (hall : ∀ i, i < R.ops.length → S i = true) :
    EnvR ν (R.E R.ops.length).t (R.E R.ops.length).n a.tmps ∧ HR R.K R.B R.w0 ν (R.Hh R.ops.length) w ∧ Ext R.ν0 R.h00 R.ws ν (R.Hh R.ops.length) w ∧ a.defers = R.defers := by
  have hqn : q = R.ops.length := by
    have := v.qn
    refine Classical.byContradiction fun hne => ?_
    have hlt : q < R.ops.length := by omega
    have := v.hi q (Nat.le_refl _) (hq hlt)
    rw [hall q hlt] at this
    cases this
  subst hqn
  have he := v.env
  rw [envF_all _ hall] at he
  exact ⟨he, v.hr.sub v.sub v.gnext.symm, v.ext, v.defers⟩

include ok in
theorem any_sound (hF : ∀ f, F.fn f) (hop : OpSound R.K R.B R.w0 R.P R.c F nn R.r) {all : List Step}
    (hall : ∀ (i : Nat) (o : Oper), R.ops[i]? = some o → all[i]? = some ⟨o, R.E i, R.Hh i, R.xs i, R.Hh (i + 1)⟩) (hlen : all.length = R.ops.length)
    (hst : stable R.c R.p R.ops all (snapsOf R.c all 0 (R.Hh R.ops.length)) R.base all 0 = true) {Q : Exit → Act → World → Prop}
    (fin : ∀ a' w' ν', EnvR ν' (R.E R.ops.length).t (R.E R.ops.length).n a'.tmps → HR R.K R.B R.w0 ν' (R.Hh R.ops.length) w' → Ext R.ν0 R.h00 R.ws ν' (R.Hh R.ops.length) w' → a'.defers = R.defers → Q .normal a' w') :
    ∀ (fuel : Nat) (listed : Array Bool) (q : Nat) (ν : Ren) (g : H) (a : Act) (w : World), listed.size = R.ops.length → cnt (doneOf listed) R.ops.length ≤ fuel → Inv R q (doneOf listed) ν g a w → (q < R.ops.length → R.isDoes q) →
      wpAnyIn F nn R.P .any R.ops.toArray Q fuel listed a w := by
  intro fuel
  induction fuel with
  | zero =>
    intro listed q ν g a w hs hcnt v hq
    have hd := cnt_zero _ (Nat.le_zero.1 hcnt)
    obtain ⟨h1, h2, h3, h4⟩ := finish v hq hd
    refine ⟨?_, fin a w ν h1 h2 h3 h4⟩
    refine List.eq_nil_iff_forall_not_mem.2 fun i hi => ?_
    obtain ⟨o, ho, h5, _⟩ := (mem_ready hs).1 hi
    rw [hd i (List.getElem?_eq_some_iff.1 ho).1] at h5
    cases h5
  | succ fuel ih =>
    intro listed q ν g a w hs hcnt v hq
    refine ⟨fun hr => ?_, fun i hi => ?_⟩
    · obtain ⟨h1, h2, h3, h4⟩ := finish v hq (all_done ok hs hr)
      exact fin a w ν h1 h2 h3 h4
    · obtain ⟨o, ho, hS, hrd⟩ := (mem_ready hs).1 hi
      have hlt := (List.getElem?_eq_some_iff.1 ho).1
      have hs' : (listed.setIfInBounds i true).size = R.ops.length := by simpa using hs
      have hset := doneOf_set (listed := listed) (i := i) (by omega)
      have hcnt' : cnt (doneOf (listed.setIfInBounds i true)) R.ops.length ≤ fuel := by
        rw [hset]
        have := cnt_add hS R.ops.length hlt
        omega
      have go : ∀ (q' : Nat) (ν' : Ren) (g' : H) (a' : Act) (w' : World), Inv R q' (add (doneOf listed) i) ν' g' a' w' → wpAnyIn F nn R.P .any R.ops.toArray Q fuel (listed.setIfInBounds i true) a' w' := by
        intro q' ν' g' a' w' v'
        rw [← hset] at v'
        obtain ⟨q2, g2, v2, hq2⟩ := settle ok (R.ops.length - q') q' g' (Nat.le_refl _) v'
        exact ih _ q2 ν' g2 a' w' hs' hcnt' v2 hq2
      have hst1 := ok.step i o ho
      obtain ⟨b, hb⟩ := drawStep_wanted hst1
      have hwant := wants ok v ho hS hrd hb
      have hiq : kindOf R.c o.op = .does → i = q := fun hk => by
        have hdi : R.isDoes i := ⟨o, ho, hk⟩
        have hqi : q ≤ i := by
          refine Nat.le_of_not_lt fun h => ?_
          have := v.lo i h hdi
          rw [hS] at this; cases this
        refine Nat.le_antisymm (Nat.le_of_not_lt fun hlt2 => ?_) hqi
        have hqlt : q < R.ops.length := by omega
        obtain ⟨oq, hoq, hkq⟩ := hq hqlt
        have := before ok v.closed ho hrd hoq hlt2 (bound_does hkq hk)
        rw [v.hi q (Nat.le_refl _) ⟨oq, hoq, hkq⟩] at this
        cases this
      unfold wpOpIn
      rw [List.getElem?_toArray, ho]
      simp only
      rw [hwant]
      cases b with
      | false =>
        rw [if_neg (by simp)]
        refine ⟨fun f _ => hF f, ?_⟩
        obtain ⟨hx, hH⟩ := drawStep_unwanted hst1 hb
        have hu : XR ν (R.xs i) undef := by rw [hx]; exact undef_XR ν
        by_cases hk : kindOf R.c o.op = .does
        · have := hiq hk
          subst this
          obtain ⟨g', v'⟩ := afterDoes ok v ho hk hrd (ν' := ν) (w' := w) (by rw [hH]; exact v.hr.sub v.sub v.gnext.symm) (by rw [hH]; exact Ext.refl _ _ _) hu
          exact go _ _ _ _ _ v'
        · refine go _ _ _ _ _ (stepStill ok v ho hS hrd (fun h => ?_) (fun h => ?_) hu)
          · obtain ⟨o', ho', hk'⟩ := h
            rw [ho] at ho'; cases ho'
            exact hk hk'
          · obtain ⟨o', ho', _, hw'⟩ := h
            rw [ho] at ho'; cases ho'
            rw [hb] at hw'; cases hw'
      | true =>
        rw [if_pos rfl]
        have hev := evR ok v ho hS hrd
        cases hk : kindOf R.c o.op with
        | does =>
          have := hiq hk
          subst this
          have hret := drawStep_does hst1 hb hk
          refine hop ν (R.Hh i) w (R.E i) a o (· = (R.xs i, R.Hh (i + 1))) (v.hr.sub v.sub v.gnext.symm) hev hk (by rw [hret]; exact rfl) _ _ ?_
          intro x h' u ν' w' he hxr hr' hext
          cases he
          obtain ⟨g', v'⟩ := afterDoes ok v ho hk hrd hr' hext hxr
          exact go _ _ _ _ _ v'
        | lays =>
          obtain ⟨u, w', ν', g', hrun, v'⟩ := stepLay ok v ho hS hrd hk hb
          exact wpIn_value hF (notDefer_kind (c := R.c) (by rw [hk]; simp)) hrun (go _ _ _ _ _ v')
        | calm =>
          obtain ⟨hc, hH⟩ := drawStep_calm hst1 hb hk
          obtain ⟨x, u, hQ, hrun, hxr⟩ := calm_sound (w := w) (P := R.P) ok.hc (Q := (· = R.xs i)) hev (by rw [hc]; exact rfl)
          subst hQ
          refine wpIn_value hF (notDefer_calm hc) hrun (go _ _ _ _ _ (stepStill ok v ho hS hrd (fun h => ?_) (fun h => ?_) hxr))
          · obtain ⟨o', ho', hk'⟩ := h
            rw [ho] at ho'; cases ho'
            rw [hk] at hk'; cases hk'
          · obtain ⟨o', ho', hk', _⟩ := h
            rw [ho] at ho'; cases ho'
            rw [hk] at hk'; cases hk'
        | reads =>
          have hrd2 := readHere ok v hq hall hlen hst ho hS hrd hk hb
          obtain ⟨x, u, hQ, hrun, hxr⟩ := read_sound (P := R.P) ok.hc v.hr hev hrd2
          subst hQ
          refine wpIn_value hF (notDefer_kind (c := R.c) (by rw [hk]; simp)) hrun (go _ _ _ _ _ (stepStill ok v ho hS hrd (fun h => ?_) (fun h => ?_) hxr))
          · obtain ⟨o', ho', hk'⟩ := h
            rw [ho] at ho'; cases ho'
            rw [hk] at hk'; cases hk'
          · obtain ⟨o', ho', hk', _⟩ := h
            rw [ho] at ho'; cases ho'
            rw [hk] at hk'; cases hk'
end
end RegCtx
end Go.Abs
