/- Regions whose order is open: one operation more, in whatever order. -/
import Derived.Test.YtadhbmnpokmgcaaGreatDoorA22
namespace Go.Abs
open Go Go.RowKit

/-- All that is fixed while a region runs. -/
structure RegCtx where
  K : CodeP
  B : Nat
  w0 : World
  P : Program
  c : Ctx
  r : Rec
  p : Plan
  ops : List Oper
  base : Nat
  E0 : Env
  Hh : Nat → H
  xs : Nat → X
  anc : List Nat
  ds : List Nat
  ν0 : Ren
  h00 : H
  ws : World
  defers : List Deferred

namespace RegCtx
def E (R : RegCtx) (i : Nat) : Env := envF R.E0 (dstOf R.ops) R.xs (fun _ => true) i
def isDoes (R : RegCtx) (i : Nat) : Prop := ∃ o : Oper, R.ops[i]? = some o ∧ kindOf R.c o.op = .does
def isLay (R : RegCtx) (i : Nat) : Prop := ∃ o : Oper, R.ops[i]? = some o ∧ kindOf R.c o.op = .lays ∧ wantedV R.ops (R.E i) o = some true

structure Ok (R : RegCtx) : Prop where
  hc : CtxOk R.P R.c
  facts : RegFacts R.c R.p R.ops R.anc R.ds
  step : ∀ (i : Nat) (o : Oper), R.ops[i]? = some o → drawStep R.c R.r R.ops R.base i (R.E i) (R.Hh i) o = some (R.xs i, R.Hh (i + 1))
  hbase : R.h00.next = R.base
  dom : ∀ b l, R.ν0 b = some l → b < R.h00.next

/-- A state on the way: S holds the operations that are done; q: where the next one stands that does something. -/
structure Inv (R : RegCtx) (q : Nat) (S : Nat → Bool) (ν : Ren) (g : H) (a : Act) (w : World) : Prop where
  qn : q ≤ R.ops.length
  lo : ∀ i, i < q → R.isDoes i → S i = true
  hi : ∀ i, q ≤ i → R.isDoes i → S i = false
  closed : Closed R.ops S
  hr : HR R.K R.B R.w0 ν g w
  gnext : g.next = (R.Hh q).next
  geq : ∀ b, (∀ i, q ≤ i → S i = true → R.isLay i → b ≠ R.base + i) → g.get b = (R.Hh q).get b
  gearly : ∀ i, q ≤ i → S i = true → R.isLay i → g.get (R.base + i) = (R.Hh (i + 1)).get (R.base + i)
  hnone : ∀ i, q ≤ i → i < R.ops.length → (R.Hh q).get (R.base + i) = none
  nun : ∀ i, i < R.ops.length → (S i = false ∨ ¬ R.isLay i) → ν (R.base + i) = none
  late : ∀ i, i < q → S i = false → R.isLay i → (R.Hh q).get (R.base + i) = (R.Hh (i + 1)).get (R.base + i) ∨ (R.Hh q).get (R.base + i) = none
  env : EnvR ν (envF R.E0 (dstOf R.ops) R.xs S R.ops.length).t (envF R.E0 (dstOf R.ops) R.xs S R.ops.length).n a.tmps
  ext : Ext R.ν0 R.h00 R.ws ν (R.Hh q) w
  room : R.base + R.ops.length ≤ (R.Hh q).next
  defers : a.defers = R.defers

def add (S : Nat → Bool) (i : Nat) : Nat → Bool := fun k => S k || Nat.beq k i
theorem add_self (S : Nat → Bool) (i : Nat) : add S i i = true := by unfold add; rw [Nat.beq_refl, Bool.or_true]
theorem add_ne {S : Nat → Bool} {i k : Nat} (h : k ≠ i) : add S i k = S k := by
  unfold add
  have : Nat.beq k i = false := by rw [beq_dec]; simp [h]
  rw [this, Bool.or_false]
theorem add_false {S : Nat → Bool} {i k : Nat} (h : add S i k = false) : S k = false ∧ k ≠ i := by
  unfold add at h
  rw [Bool.or_eq_false_iff] at h
  refine ⟨h.1, fun e => ?_⟩
  subst e
  rw [Nat.beq_refl] at h
  cases h.2

def Ready (R : RegCtx) (S : Nat → Bool) (o : Oper) : Prop := ∀ e ∈ o.after.toList, Region.binds .any e = true → S e.on = true

section
variable {R : RegCtx} (ok : R.Ok) {q : Nat} {S : Nat → Bool} {ν : Ren} {g : H} {a : Act} {w : World}

theorem memN_of {t : Nat} {l : List Nat} (h : t ∈ l) : memN t l = true := by
  unfold memN
  rw [List.any_eq_true]
  exact ⟨t, h, Nat.beq_refl t⟩

theorem bound_dst {c : Ctx} {ops : List Oper} {x y : Oper} {d : Nat} (hd : x.dst = some d) (h : d ∈ looksOf ops y ∨ y.dst = some d) : bound c ops x y = true := by
  unfold bound
  rw [hd]
  rcases h with h | h
  · simp only [memN_of h, Bool.true_or]
  · rw [h]; simp only [Nat.beq_refl, Bool.or_true, Bool.true_or]
theorem bound_dst' {c : Ctx} {ops : List Oper} {x y : Oper} {d : Nat} (hd : y.dst = some d) (h : d ∈ looksOf ops x) : bound c ops x y = true := by
  unfold bound
  rw [hd]
  simp only [memN_of h, Bool.or_true, Bool.true_or]
theorem bound_does {c : Ctx} {ops : List Oper} {x y : Oper} (hx : kindOf c x.op = .does) (hy : kindOf c y.op = .does) : bound c ops x y = true := by
  unfold bound
  simp only [hx, hy, decide_true, Bool.and_self, Bool.or_true]

theorem dstOf_some {ops : List Oper} {k : Nat} {t : Nat} (h : dstOf ops k = some t) : ∃ o : Oper, ops[k]? = some o ∧ o.dst = some t := by
  unfold dstOf at h
  exact Option.bind_eq_some_iff.1 h

include ok in
/-- What stands ahead of an operation that is next is done. -/
theorem before (hcl : Closed R.ops S) {i : Nat} {o : Oper} (ho : R.ops[i]? = some o) (hrd : R.Ready S o) {k : Nat} {x : Oper} (hx : R.ops[k]? = some x) (hki : k < i) (hb : bound R.c R.ops x o = true) : S k = true :=
  hcl.next ok.facts ho hrd (ok.facts.pairs k i x o hki hx ho hb)

include ok in
theorem behind (hcl : Closed R.ops S) {i : Nat} {o : Oper} (ho : R.ops[i]? = some o) (hi : S i = false) {k : Nat} {x : Oper} (hx : R.ops[k]? = some x) (hik : i < k) (hb : bound R.c R.ops o x = true) : S k = false := by
  cases hk : S k with
  | false => rfl
  | true =>
    have := hcl.anc ok.facts k i hk (ok.facts.pairs i k o x hik ho hx hb)
    rw [hi] at this; cases this

include ok in
theorem sees (hcl : Closed R.ops S) {i : Nat} {o : Oper} (ho : R.ops[i]? = some o) (hi : S i = false) (hrd : R.Ready S o) {t : Nat} (ht : t ∈ looksOf R.ops o) :
    (envF R.E0 (dstOf R.ops) R.xs S R.ops.length).get t = (R.E i).get t := by
  have hlt : i < R.ops.length := (List.getElem?_eq_some_iff.1 ho).1
  refine env_agree (Nat.le_of_lt hlt) hi (fun k hk hd => ?_) (fun k hk hkn hd => ?_)
  · obtain ⟨x, hx, hxd⟩ := dstOf_some hd
    exact before ok hcl ho hrd hx hk (bound_dst hxd (.inl ht))
  · obtain ⟨x, hx, hxd⟩ := dstOf_some hd
    exact behind ok hcl ho hi hx hk (bound_dst' hxd ht)

include ok in
/-- Its operands are as in the order of the text. -/
theorem evR (v : Inv R q S ν g a w) {i : Nat} {o : Oper} (ho : R.ops[i]? = some o) (hi : S i = false) (hrd : R.Ready S o) : EvR ν (R.E i) a o.op.operands.toList := by
  intro x hx
  refine ev_tmps (fun t e => ?_) (List.all_eq_true.1 (ok.facts.operands i o ho) x hx)
  subst e
  rw [← sees ok v.closed ho hi hrd (by
    unfold looksOf
    exact List.mem_append_left _ (List.mem_filterMap.2 ⟨.tmp t, hx, rfl⟩))]
  exact v.env.get t

include ok in
theorem wants (v : Inv R q S ν g a w) {i : Nat} {o : Oper} (ho : R.ops[i]? = some o) (hi : S i = false) (hrd : R.Ready S o) {b : Bool} (hw : wantedV R.ops (R.E i) o = some b) :
    Region.wanted o (yielded R.ops.toArray a.tmps) = b := by
  refine wanted_run (ν := ν) (fun g' w' d oj hg hj hd => ?_) hw
  rw [← sees ok v.closed ho hi hrd (by
    unfold looksOf
    refine List.mem_append_right _ ?_
    rw [hg]
    simp [hj, hd])]
  exact v.env.get d

include ok in
theorem envAdd (v : Inv R q S ν g a w) {ν' : Ren} (hle : ν.le ν') {i : Nat} {o : Oper} (ho : R.ops[i]? = some o) (hi : S i = false) {u : Value} (hu : XR ν' (R.xs i) u) :
    EnvR ν' (envF R.E0 (dstOf R.ops) R.xs (add S i) R.ops.length).t (envF R.E0 (dstOf R.ops) R.xs (add S i) R.ops.length).n (a.put o.dst u).tmps := by
  have hlt : i < R.ops.length := (List.getElem?_eq_some_iff.1 ho).1
  have h1 := (v.env.mono hle).put (d := o.dst) hu
  refine h1.congr (by rw [envF_n, Env.n_putD, envF_n]) fun t => ?_
  have hd : dstOf R.ops i = o.dst := by unfold dstOf; rw [ho]; rfl
  have := env_add (E0 := R.E0) (D := dstOf R.ops) (x := R.xs) (S := S) (n := R.ops.length) (i := i) (t := t) hlt hi (fun k hk hkn h1 h2 => by
    obtain ⟨x, hx, hxd⟩ := dstOf_some h1
    exact behind ok v.closed ho hi hx hk (bound_dst (d := t) (by rw [← hd]; exact h2) (.inr hxd)))
  unfold add
  rw [this, Env.get_putD, envF_n, hd]

theorem closedAdd (v : Inv R q S ν g a w) {i : Nat} {o : Oper} (ho : R.ops[i]? = some o) (hrd : R.Ready S o) : Closed R.ops (add S i) := by
  intro j oj hj hs e he hb
  by_cases hji : j = i
  · subst hji
    rw [ho] at hj
    cases hj
    have := hrd e he hb
    unfold add; rw [this, Bool.true_or]
  · rw [add_ne hji] at hs
    have := v.closed j oj hj hs e he hb
    unfold add; rw [this, Bool.true_or]

theorem put_defers (a : Act) (d : Option Tmp) (u : Value) : (a.put d u).defers = a.defers := by cases d <;> rfl

include ok in
/-- An operation that leaves memory as it is. -/
theorem stepStill (v : Inv R q S ν g a w) {i : Nat} {o : Oper} (ho : R.ops[i]? = some o) (hi : S i = false) (hrd : R.Ready S o) (hnd : ¬ R.isDoes i) (hnl : ¬ R.isLay i) {u : Value} (hu : XR ν (R.xs i) u) :
    Inv R q (add S i) ν g (a.put o.dst u) w where
  qn := v.qn
  lo := fun k hk hd => by unfold add; rw [v.lo k hk hd, Bool.true_or]
  hi := fun k hk hd => by
    have hne : k ≠ i := fun e => hnd (e ▸ hd)
    rw [add_ne hne]; exact v.hi k hk hd
  closed := closedAdd v ho hrd
  hr := v.hr
  gnext := v.gnext
  geq := fun b hb => v.geq b fun k hk hs hl => hb k hk (by unfold add; rw [hs, Bool.true_or]) hl
  gearly := fun k hk hs hl => by
    have hne : k ≠ i := fun e => hnl (e ▸ hl)
    rw [add_ne hne] at hs; exact v.gearly k hk hs hl
  hnone := v.hnone
  nun := fun k hk hs => v.nun k hk (hs.imp (fun h => (add_false h).1) id)
  late := fun k hk hs hl => v.late k hk (add_false hs).1 hl
  env := envAdd ok v (Ren.le_refl _) ho hi hu
  ext := v.ext
  room := v.room
  defers := by rw [put_defers]; exact v.defers

include ok in
/-- An operation that lays a block. -/
theorem stepLay (v : Inv R q S ν g a w) {i : Nat} {o : Oper} (ho : R.ops[i]? = some o) (hi : S i = false) (hrd : R.Ready S o) (hk : kindOf R.c o.op = .lays) (hw : wantedV R.ops (R.E i) o = some true) :
    ∃ u w' ν' g', (execOp a.eval o).run R.P w = .ok (.value u) w' ∧ Inv R q (add S i) ν' g' (a.put o.dst u) w' := by
  have hlt : i < R.ops.length := (List.getElem?_eq_some_iff.1 ho).1
  obtain ⟨xv, ob, hlay, hx, hH⟩ := drawStep_lays (ok.step i o ho) hw hk
  have hnu := v.nun i hlt (.inl hi)
  have hil : R.isLay i := ⟨o, ho, hk, hw⟩
  have hnd : ¬ R.isDoes i := by
    rintro ⟨o', ho', hd⟩
    rw [ho] at ho'; cases ho'
    rw [hk] at hd; cases hd
  obtain ⟨x, u, w', tot, hQ, hrun, hlaid⟩ := lays_sound (K := R.K) (ν := ν) (w := w) (P := R.P) ok.hc (Q := (· = (xv, ob))) (evR ok v ho hi hrd) (by rw [hlay]; exact rfl)
  subst hQ
  have hle := ren_le (l := ⟨w.heap.size, 0, tot⟩) hnu
  obtain ⟨h1, h2⟩ := hlaid.val _ hle (ren_self _ _ _)
  have hlt2 : R.base + i < g.next := by rw [v.gnext]; have := v.room; omega
  have hO : (R.Hh (i + 1)).get (R.base + i) = some ob := by rw [hH, H.get_put, if_pos rfl]
  by_cases hcase : (¬ q ≤ i) ∧ (R.Hh q).get (R.base + i) = none
  · have hgn : g.get (R.base + i) = none := by
      rw [v.geq (R.base + i) fun k hk' _ _ e => by omega]
      exact hcase.2
    have hnm := v.hr.name hnu hlt2 rfl hlaid.hold (by rw [hlaid.size]; omega) hlaid.rest h2
    refine ⟨u, w', ren ν (R.base + i) ⟨w.heap.size, 0, tot⟩, g, hrun, ?_⟩
    exact {
      qn := v.qn
      lo := fun k hk' hd => by unfold add; rw [v.lo k hk' hd, Bool.true_or]
      hi := fun k hk' hd => by
        have hne : k ≠ i := fun e => hnd (e ▸ hd)
        rw [add_ne hne]; exact v.hi k hk' hd
      closed := closedAdd v ho hrd
      hr := hnm.sub (fun b o' hb => by
        rw [H.get_put]
        split
        · rename_i e; subst e; rw [hgn] at hb; cases hb
        · exact hb) rfl
      gnext := v.gnext
      geq := fun b hb => v.geq b fun k hk' hs hl => hb k hk' (by unfold add; rw [hs, Bool.true_or]) hl
      gearly := fun k hk' hs hl => by
        rw [add_ne (by omega)] at hs
        exact v.gearly k hk' hs hl
      hnone := v.hnone
      nun := fun k hk' hs => by
        have hki : k ≠ i := by
          rintro rfl
          rcases hs with hs | hs
          · exact (add_false hs).2 rfl
          · exact hs hil
        rw [ren_ne (by omega)]
        exact v.nun k hk' (hs.imp (fun h => (add_false h).1) id)
      late := fun k hk' hs hl => v.late k hk' (add_false hs).1 hl
      env := envAdd ok v hle ho hi (by rw [hx]; exact h1)
      ext := v.ext.name (by rw [ok.hbase]; omega) hnu (Nat.le_refl _) hlaid.hold (by rw [hlaid.size]; omega)
      room := v.room
      defers := by rw [put_defers]; exact v.defers }
  refine ⟨u, w', ren ν (R.base + i) ⟨w.heap.size, 0, tot⟩, g.put (R.base + i) ob, hrun, ?_⟩
  exact {
    qn := v.qn
    lo := fun k hk' hd => by unfold add; rw [v.lo k hk' hd, Bool.true_or]
    hi := fun k hk' hd => by
      have hne : k ≠ i := fun e => hnd (e ▸ hd)
      rw [add_ne hne]; exact v.hi k hk' hd
    closed := closedAdd v ho hrd
    hr := v.hr.name hnu hlt2 rfl hlaid.hold (by rw [hlaid.size]; omega) hlaid.rest h2
    gnext := by rw [H.next_put]; exact v.gnext
    geq := fun b hb => by
      rw [H.get_put]
      split
      · rename_i e
        subst e
        by_cases hqi : q ≤ i
        · exact absurd rfl (hb i hqi (add_self S i) hil)
        · rcases v.late i (by omega) hi hil with e | e
          · rw [e, hO]
          · exact absurd ⟨hqi, e⟩ hcase
      · exact v.geq b fun k hk' hs hl => hb k hk' (by unfold add; rw [hs, Bool.true_or]) hl
    gearly := fun k hk' hs hl => by
      rw [H.get_put]
      by_cases hki : k = i
      · subst hki; rw [if_pos rfl, hO]
      · rw [if_neg (by omega)]
        rw [add_ne hki] at hs
        exact v.gearly k hk' hs hl
    hnone := v.hnone
    nun := fun k hk' hs => by
      have hki : k ≠ i := by
        rintro rfl
        rcases hs with hs | hs
        · exact (add_false hs).2 rfl
        · exact hs hil
      rw [ren_ne (by omega)]
      exact v.nun k hk' (hs.imp (fun h => (add_false h).1) id)
    late := fun k hk' hs hl => v.late k hk' (add_false hs).1 hl
    env := envAdd ok v hle ho hi (by rw [hx]; exact h1)
    ext := v.ext.name (by rw [ok.hbase]; omega) hnu (Nat.le_refl _) hlaid.hold (by rw [hlaid.size]; omega)
    room := v.room
    defers := by rw [put_defers]; exact v.defers }

include ok in
/-- The place moves over an operation that does nothing. -/
theorem move (v : Inv R q S ν g a w) (hq : q < R.ops.length) (hnd : ¬ R.isDoes q) : ∃ g', Inv R (q + 1) S ν g' a w := by
  have ho := List.getElem?_eq_getElem hq
  have hst := ok.step q _ ho
  by_cases hil : R.isLay q
  · obtain ⟨o, ho', hk, hw⟩ := hil
    rw [ho] at ho'
    cases ho'
    obtain ⟨xv, ob, hlay, hx, hH⟩ := drawStep_lays hst hw hk
    have hil : R.isLay q := ⟨_, ho, hk, hw⟩
    have hne : ∀ i, q + 1 ≤ i → R.base + q ≠ R.base + i := fun i hi => by omega
    have common : ∀ g' : H, HR R.K R.B R.w0 ν g' w → g'.next = g.next → (∀ b, b ≠ R.base + q → g'.get b = g.get b) → g'.get (R.base + q) = some ob → Inv R (q + 1) S ν g' a w := by
      intro g' hr' hn hoth hself
      exact {
        qn := hq
        lo := fun k hk' hd => by
          by_cases hkq : k = q
          · subst hkq; exact absurd hd hnd
          · exact v.lo k (by omega) hd
        hi := fun k hk' hd => v.hi k (by omega) hd
        closed := v.closed
        hr := hr'
        gnext := by rw [hn, v.gnext, hH, H.next_put]
        geq := fun b hb => by
          rw [hH, H.get_put]
          by_cases hbq : R.base + q = b
          · subst hbq; rw [if_pos rfl, hself]
          · rw [if_neg hbq, hoth b (fun e => hbq e.symm)]
            refine v.geq b fun k hk' hs hl => ?_
            by_cases hkq : k = q
            · subst hkq; exact fun e => hbq e.symm
            · exact hb k (by omega) hs hl
        gearly := fun k hk' hs hl => by
          rw [hoth _ (by omega)]
          exact v.gearly k (by omega) hs hl
        hnone := fun k hk' hkn => by
          rw [hH, H.get_put, if_neg (by omega)]
          exact v.hnone k (by omega) hkn
        nun := v.nun
        late := fun k hk' hs hl => by
          by_cases hkq : k = q
          · subst hkq; exact .inl rfl
          · rw [hH, H.get_put, if_neg (by omega)]
            exact v.late k (by omega) hs hl
        env := v.env
        ext := by rw [hH]; exact v.ext.putOwn _ (by rw [ok.hbase]; omega)
        room := by rw [hH, H.next_put]; exact v.room
        defers := v.defers }
    cases hs : S q with
    | true =>
      refine ⟨g, common g v.hr rfl (fun _ _ => rfl) ?_⟩
      rw [v.gearly q (Nat.le_refl _) hs hil, hH, H.get_put, if_pos rfl]
    | false =>
      refine ⟨g.put (R.base + q) ob, common _ (v.hr.phantom ob (v.nun q hq (.inl hs)) (by rw [v.gnext]; have := v.room; omega)) (H.next_put _ _ _) (fun b hb => by rw [H.get_put, if_neg (fun e => hb e.symm)]) (by rw [H.get_put, if_pos rfl])⟩
  · have hH : R.Hh (q + 1) = R.Hh q := drawStep_still hst (fun hk => hnd ⟨_, ho, hk⟩) (fun hk => hil ⟨_, ho, hk.1, hk.2⟩)
    refine ⟨g, ?_⟩
    exact {
      qn := hq
      lo := fun k hk' hd => by
        by_cases hkq : k = q
        · subst hkq; exact absurd hd hnd
        · exact v.lo k (by omega) hd
      hi := fun k hk' hd => v.hi k (by omega) hd
      closed := v.closed
      hr := v.hr
      gnext := by rw [hH]; exact v.gnext
      geq := fun b hb => by
        rw [hH]
        refine v.geq b fun k hk' hs hl => ?_
        by_cases hkq : k = q
        · subst hkq; exact absurd hl hil
        · exact hb k (by omega) hs hl
      gearly := fun k hk' hs hl => v.gearly k (by omega) hs hl
      hnone := fun k hk' hkn => by rw [hH]; exact v.hnone k (by omega) hkn
      nun := v.nun
      late := fun k hk' hs hl => by
        by_cases hkq : k = q
        · subst hkq; exact absurd hl hil
        · rw [hH]; exact v.late k (by omega) hs hl
      env := v.env
      ext := by rw [hH]; exact v.ext
      room := by rw [hH]; exact v.room
      defers := v.defers }

include ok in
/-- On to the next operation that does something, or to the end. -/
theorem settle : ∀ (m q : Nat) (g : H), R.ops.length - q ≤ m → Inv R q S ν g a w → ∃ q' g', Inv R q' S ν g' a w ∧ (q' < R.ops.length → R.isDoes q') := by
  intro m
  induction m with
  | zero => intro q g hm v; exact ⟨q, g, v, fun h => by omega⟩
  | succ m ih =>
    intro q g hm v
    by_cases hq : q < R.ops.length
    · by_cases hd : R.isDoes q
      · exact ⟨q, g, v, fun _ => hd⟩
      · obtain ⟨g', v'⟩ := move ok v hq hd
        exact ih (q + 1) g' (by omega) v'
    · exact ⟨q, g, v, fun h => absurd h hq⟩
end
end RegCtx
end Go.Abs
