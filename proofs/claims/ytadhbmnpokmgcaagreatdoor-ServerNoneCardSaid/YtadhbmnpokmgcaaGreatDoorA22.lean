/- Regions whose order is open: the run in the order of the text, and a state on the way of another order. -/
import Derived.Test.YtadhbmnpokmgcaaGreatDoorA21
namespace Go.Abs
open Go Go.RowKit

section trace
variable {c : Ctx} {r : Rec} {ops : List Oper} {base : Nat}

def dstOf (ops : List Oper) (i : Nat) : Option Tmp := (ops[i]?).bind (·.dst)

theorem drawOps_cons (o : Oper) (l : List Oper) (i : Nat) (env : Env) (h : H) :
    drawOps c r ops base (o :: l) i env h = (drawStep c r ops base i env h o).bind fun p => (drawOps c r ops base l (i + 1) (env.putD o.dst p.1) p.2).map fun (q : List Step × Env × H) => (⟨o, env, h, p.1, p.2⟩ :: q.1, q.2) := rfl

theorem drawOps_spec : ∀ (l : List Oper) (k : Nat) (env : Env) (h : H) (q : List Step × Env × H), drawOps c r ops base l k env h = some q →
    q.1.length = l.length ∧ (∀ s, q.1[0]? = some s → s.env = env ∧ s.h = h) ∧ (l = [] → q.2 = (env, h)) ∧
    ∀ (i : Nat) (s : Step), q.1[i]? = some s → l[i]? = some s.o ∧ drawStep c r ops base (k + i) s.env s.h s.o = some (s.x, s.h') ∧
      (∀ s', q.1[i + 1]? = some s' → s'.env = s.env.putD s.o.dst s.x ∧ s'.h = s.h') ∧ (i + 1 = l.length → q.2 = (s.env.putD s.o.dst s.x, s.h'))
  | [], k, env, h, q, hq => by
    have e : q = ([], env, h) := (Option.some.inj hq).symm
    subst e
    exact ⟨rfl, fun s hs => by simp at hs, fun _ => rfl, fun i s hs => by simp at hs⟩
  | o :: l, k, env, h, q, hq => by
    rw [drawOps_cons] at hq
    simp only [Option.bind_eq_some_iff, Option.map_eq_some_iff] at hq
    obtain ⟨p, hp, q', hq', rfl⟩ := hq
    obtain ⟨h1, h2, h3, h4⟩ := drawOps_spec l (k + 1) _ _ q' hq'
    refine ⟨by simp [h1], fun s hs => ?_, fun e => by simp at e, fun i s hs => ?_⟩
    · simp at hs; subst hs; exact ⟨rfl, rfl⟩
    · cases i with
      | zero =>
        simp at hs
        subst hs
        refine ⟨rfl, hp, fun s' hs' => ?_, fun hl => ?_⟩
        · exact h2 s' (by simpa using hs')
        · have : l = [] := List.eq_nil_of_length_eq_zero (by simpa using hl.symm)
          exact h3 this
      | succ i =>
        obtain ⟨a1, a2, a3, a4⟩ := h4 i s (by simpa using hs)
        refine ⟨by simpa using a1, ?_, fun s' hs' => a3 s' (by simpa using hs'), fun hl => a4 (by simpa using hl)⟩
        rw [show k + (i + 1) = k + 1 + i by omega]
        exact a2

/-- The run in the order of the text, place by place. -/
structure Trace (c : Ctx) (r : Rec) (ops : List Oper) (base : Nat) (E0 : Env) (h0 : H) (Hh : Nat → H) (xs : Nat → X) : Prop where
  step : ∀ (i : Nat) (o : Oper), ops[i]? = some o → drawStep c r ops base i (envF E0 (dstOf ops) xs (fun _ => true) i) (Hh i) o = some (xs i, Hh (i + 1))
  zero : Hh 0 = h0

theorem trace_of {E0 : Env} {h0 : H} {q : List Step × Env × H} (hq : drawOps c r ops base ops 0 E0 h0 = some q) :
    ∃ (Hh : Nat → H) (xs : Nat → X), Trace c r ops base E0 h0 Hh xs ∧ q.1.length = ops.length ∧ q.2 = (envF E0 (dstOf ops) xs (fun _ => true) ops.length, Hh ops.length) ∧
      ∀ (i : Nat) (o : Oper), ops[i]? = some o → q.1[i]? = some (Step.mk o (envF E0 (dstOf ops) xs (fun _ => true) i) (Hh i) (xs i) (Hh (i + 1))) := by
  obtain ⟨h1, h2, h3, h4⟩ := drawOps_spec ops 0 E0 h0 q hq
  let Hh : Nat → H := fun i => match q.1[i]? with | some s => s.h | none => q.2.2
  let xs : Nat → X := fun i => match q.1[i]? with | some s => s.x | none => undefX
  have hH : ∀ (i : Nat) (s : Step), q.1[i]? = some s → Hh i = s.h := fun i s hs => by simp only [Hh, hs]
  have hX : ∀ (i : Nat) (s : Step), q.1[i]? = some s → xs i = s.x := fun i s hs => by simp only [xs, hs]
  have hN : ∀ i, ops.length ≤ i → Hh i = q.2.2 := fun i hi => by
    have : q.1[i]? = none := List.getElem?_eq_none (by omega)
    simp only [Hh, this]
  have hnext : ∀ (i : Nat) (s : Step), q.1[i]? = some s → Hh (i + 1) = s.h' := fun i s hs => by
    obtain ⟨a1, a2, a3, a4⟩ := h4 i s hs
    cases hn : q.1[i + 1]? with
    | some s' => rw [hH _ s' hn]; exact (a3 s' hn).2
    | none =>
      have hlen : ops.length ≤ i + 1 := by rw [← h1]; exact List.getElem?_eq_none_iff.1 hn
      have hlt : i < ops.length := (List.getElem?_eq_some_iff.1 a1).1
      rw [hN _ hlen, a4 (by omega)]
  have henv : ∀ (i : Nat) (s : Step), q.1[i]? = some s → s.env = envF E0 (dstOf ops) xs (fun _ => true) i := by
    intro i
    induction i with
    | zero => intro s hs; rw [(h2 s hs).1]; rfl
    | succ i ih =>
      intro s hs
      have hlt : i < q.1.length := by have := (List.getElem?_eq_some_iff.1 hs).1; omega
      have hs0 := List.getElem?_eq_getElem hlt
      obtain ⟨a1, a2, a3, a4⟩ := h4 i _ hs0
      rw [(a3 s hs).1, ih _ hs0]
      have : dstOf ops i = (q.1[i]).o.dst := by simp only [dstOf, a1, Option.bind_some]
      rw [envF, cond_true, this, hX i _ hs0]
  have hop : ∀ (i : Nat) (o : Oper), ops[i]? = some o → ∃ s : Step, q.1[i]? = some s ∧ s.o = o := fun i o ho => by
    have hlt : i < q.1.length := by have := (List.getElem?_eq_some_iff.1 ho).1; omega
    have hs := List.getElem?_eq_getElem hlt
    obtain ⟨a1, _⟩ := h4 i _ hs
    rw [ho] at a1
    exact ⟨_, hs, (Option.some.inj a1).symm⟩
  refine ⟨Hh, xs, ⟨fun i o ho => ?_, ?_⟩, h1, ?_, fun i o ho => ?_⟩
  · obtain ⟨s, hs, rfl⟩ := hop i o ho
    obtain ⟨a1, a2, _⟩ := h4 i s hs
    rw [Nat.zero_add] at a2
    rw [← henv i s hs, hH i s hs, hX i s hs, hnext i s hs]
    exact a2
  · cases hs : q.1[0]? with
    | some s => rw [hH 0 s hs]; exact (h2 s hs).2
    | none =>
      have : q.1 = [] := by cases hq1 : q.1 with
        | nil => rfl
        | cons _ _ => rw [hq1] at hs; simp at hs
      have hl : ops = [] := List.eq_nil_of_length_eq_zero (by rw [← h1, this]; rfl)
      rw [hN 0 (by rw [hl]; simp), h3 hl]
  · cases hl : ops.length with
    | zero =>
      have hl' : ops = [] := List.eq_nil_of_length_eq_zero hl
      rw [hN 0 (by omega), h3 hl']
      rfl
    | succ m =>
      have hlt : m < q.1.length := by omega
      have hs := List.getElem?_eq_getElem hlt
      obtain ⟨a1, a2, a3, a4⟩ := h4 m _ hs
      have e := a4 hl.symm
      have : dstOf ops m = (q.1[m]).o.dst := by simp only [dstOf, a1, Option.bind_some]
      rw [e, envF, cond_true, this, hX m _ hs, henv m _ hs, hnext m _ hs]
  · obtain ⟨s, hs, rfl⟩ := hop i o ho
    rw [hs, ← henv i s hs, hH i s hs, hX i s hs, hnext i s hs]
end trace

/-! ### A step of the trace -/
section steps
variable {c : Ctx} {r : Rec} {ops : List Oper} {base i : Nat} {env : Env} {h h' : H} {o : Oper} {x : X}

theorem drawStep_unwanted (hs : drawStep c r ops base i env h o = some (x, h')) (hw : wantedV ops env o = some false) : x = undefX ∧ h' = h := by
  unfold drawStep at hs
  rw [hw] at hs
  cases hs
  exact ⟨rfl, rfl⟩

theorem drawStep_wanted (hs : drawStep c r ops base i env h o = some (x, h')) : ∃ b, wantedV ops env o = some b := by
  unfold drawStep at hs
  simp only [Option.bind_eq_some_iff] at hs
  obtain ⟨b, hb, _⟩ := hs
  exact ⟨b, hb⟩

theorem T.opt_some {α : Type} {t : T α} {a : α} (h : t.opt = some a) : t = .ret a := by
  cases t with
  | ret b => cases h; rfl
  | fail => cases h
  | ask n k => cases h

theorem drawStep_does (hs : drawStep c r ops base i env h o = some (x, h')) (hw : wantedV ops env o = some true) (hk : kindOf c o.op = .does) : doesOp c r env h o.op = .ret (x, h') := by
  unfold drawStep at hs
  rw [hw] at hs
  simp only [Option.bind_some, cond_true, hk] at hs
  exact T.opt_some hs

theorem drawStep_reads (hs : drawStep c r ops base i env h o = some (x, h')) (hw : wantedV ops env o = some true) (hk : kindOf c o.op = .reads) : readOp c h env o.op = some x ∧ h' = h := by
  unfold drawStep at hs
  rw [hw] at hs
  simp only [Option.bind_some, cond_true, hk, Option.map_eq_some_iff] at hs
  obtain ⟨y, hy, e⟩ := hs
  cases e
  exact ⟨hy, rfl⟩

theorem drawStep_calm (hs : drawStep c r ops base i env h o = some (x, h')) (hw : wantedV ops env o = some true) (hk : kindOf c o.op = .calm) : calmOp c env o.op = .ret x ∧ h' = h := by
  unfold drawStep at hs
  rw [hw] at hs
  simp only [Option.bind_some, cond_true, hk, Option.map_eq_some_iff] at hs
  obtain ⟨y, hy, e⟩ := hs
  cases e
  exact ⟨T.opt_some hy, rfl⟩

theorem drawStep_lays (hs : drawStep c r ops base i env h o = some (x, h')) (hw : wantedV ops env o = some true) (hk : kindOf c o.op = .lays) :
    ∃ v ob, laysOp c env (base + i) o.op = .ret (v, ob) ∧ x = .y (.v v) ∧ h' = h.put (base + i) ob := by
  unfold drawStep at hs
  rw [hw] at hs
  simp only [Option.bind_some, cond_true, hk, Option.map_eq_some_iff] at hs
  obtain ⟨y, hy, e⟩ := hs
  cases e
  exact ⟨y.1, y.2, T.opt_some hy, rfl, rfl⟩

/-- Where the step lays nothing and does nothing, memory stays. -/
theorem drawStep_still (hs : drawStep c r ops base i env h o = some (x, h')) (hk : kindOf c o.op ≠ .does) (hl : ¬ (kindOf c o.op = .lays ∧ wantedV ops env o = some true)) : h' = h := by
  obtain ⟨b, hb⟩ := drawStep_wanted hs
  cases b with
  | false => exact (drawStep_unwanted hs hb).2
  | true =>
    cases hkk : kindOf c o.op with
    | calm => exact (drawStep_calm hs hb hkk).2
    | reads => exact (drawStep_reads hs hb hkk).2
    | does => exact absurd hkk hk
    | lays => exact absurd ⟨hkk, hb⟩ hl
end steps
end Go.Abs
