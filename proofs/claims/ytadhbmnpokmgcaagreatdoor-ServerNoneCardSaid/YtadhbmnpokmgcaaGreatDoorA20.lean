/- Regions whose order is open: environments, and memory with what is laid early. -/
import Derived.Test.YtadhbmnpokmgcaaGreatDoorA19
namespace Go.Abs
open Go Go.RowKit

/-! ### Environments -/
theorem Env.get_putD (e : Env) (d : Option Tmp) (x : X) (t : Nat) : (e.putD d x).get t = if d = some t ∧ t < e.n then x else e.get t := by
  cases d with
  | none => simp [Env.putD]
  | some i =>
    show (e.put i x).get t = _
    by_cases hi : i < e.n
    · rw [Env.get_put e i t x hi]
      by_cases h : i = t
      · subst h; simp [hi]
      · simp [h]
    · rw [Env.put_out e i x hi]
      by_cases h : i = t
      · subst h; simp [hi]
      · simp [h]

def envF (E0 : Env) (D : Nat → Option Tmp) (x : Nat → X) (p : Nat → Bool) : Nat → Env
  | 0 => E0
  | k + 1 => bif p k then (envF E0 D x p k).putD (D k) (x k) else envF E0 D x p k

section env
variable {E0 : Env} {D : Nat → Option Tmp} {x : Nat → X}

theorem envF_n (p : Nat → Bool) : ∀ k, (envF E0 D x p k).n = E0.n
  | 0 => rfl
  | k + 1 => by
    unfold envF
    cases p k with
    | true => rw [cond_true, Env.n_putD, envF_n p k]
    | false => rw [cond_false, envF_n p k]

theorem envF_get (p : Nat → Bool) (k t : Nat) : (envF E0 D x p (k + 1)).get t = if p k = true ∧ D k = some t ∧ t < E0.n then x k else (envF E0 D x p k).get t := by
  rw [envF]
  cases hp : p k with
  | true => rw [cond_true, Env.get_putD, envF_n]; simp
  | false => rw [cond_false]; simp

/-- What an operation that is next sees is what it sees in the order of the text. -/
theorem env_agree {S : Nat → Bool} {n i t : Nat} (hi : i ≤ n) (hS : S i = false) (hlo : ∀ k, k < i → D k = some t → S k = true) (hhi : ∀ k, i < k → k < n → D k = some t → S k = false) :
    (envF E0 D x S n).get t = (envF E0 D x (fun _ => true) i).get t := by
  have key : ∀ m, m ≤ n → (envF E0 D x S m).get t = (envF E0 D x (fun _ => true) (min m i)).get t := by
    intro m
    induction m with
    | zero => intro _; rw [Nat.zero_min]; rfl
    | succ k ih =>
      intro hm
      have ih := ih (by omega)
      rw [envF_get]
      by_cases hk : k < i
      · rw [show min (k + 1) i = k + 1 by omega, envF_get]
        rw [show min k i = k by omega] at ih
        by_cases hd : D k = some t
        · rw [hlo k hk hd]; simp [hd, ih]
        · simp [hd, ih]
      · rw [show min (k + 1) i = i by omega]
        rw [show min k i = i by omega] at ih
        have : ¬ (S k = true ∧ D k = some t ∧ t < E0.n) := by
          rintro ⟨h1, h2, _⟩
          by_cases e : k = i
          · subst e; rw [hS] at h1; cases h1
          · have := hhi k (by omega) (by omega) h2
            rw [this] at h1; cases h1
        rw [if_neg this]
        exact ih
  have := key n (Nat.le_refl _)
  rwa [show min n i = i by omega] at this

theorem env_add {S : Nat → Bool} {n i t : Nat} (hi : i < n) (hS : S i = false) (hhi : ∀ k, i < k → k < n → D k = some t → D i = some t → S k = false) :
    (envF E0 D x (fun k => S k || Nat.beq k i) n).get t = if D i = some t ∧ t < E0.n then x i else (envF E0 D x S n).get t := by
  have key : ∀ m, m ≤ n → (envF E0 D x (fun k => S k || Nat.beq k i) m).get t = if i < m ∧ D i = some t ∧ t < E0.n then x i else (envF E0 D x S m).get t := by
    intro m
    induction m with
    | zero => intro _; rw [if_neg (by omega)]; rfl
    | succ k ih =>
      intro hm
      have ih := ih (by omega)
      rw [envF_get, envF_get, ih]
      by_cases hk : k = i
      · subst hk
        simp only [hS, Bool.false_or, Nat.beq_refl, true_and, Nat.lt_succ_self, Bool.false_eq_true, false_and, if_false, Nat.lt_irrefl]
      · have hb : Nat.beq k i = false := by rw [beq_dec]; simp [hk]
        rw [hb]
        simp only [Bool.or_false]
        by_cases h2 : S k = true ∧ D k = some t ∧ t < E0.n
        · rw [if_pos h2, if_pos h2]
          by_cases h3 : i < k + 1 ∧ D i = some t ∧ t < E0.n
          · have := hhi k (by omega) (by omega) h2.2.1 h3.2.1
            rw [this] at h2
            cases h2.1
          · rw [if_neg h3]
        · rw [if_neg h2, if_neg h2]
          by_cases h3 : i < k ∧ D i = some t ∧ t < E0.n
          · rw [if_pos h3, if_pos ⟨by omega, h3.2⟩]
          · rw [if_neg h3, if_neg (fun h => h3 ⟨by omega, h.2⟩)]
  have := key n (Nat.le_refl _)
  rw [this]
  simp [hi]
end env

theorem EnvR.put {ν : Ren} {e : Env} {a : Act} (h : EnvR ν e.t e.n a.tmps) {d : Option Tmp} {x : X} {v : Value} (hx : XR ν x v) : EnvR ν (e.putD d x).t (e.putD d x).n (a.put d v).tmps := by
  have hg : ∀ i, XR ν ((e.putD d x).get i) ((a.put d v).tmps.getD i undef) := by
    intro i
    rw [Env.get_putD]
    cases d with
    | none =>
      rw [if_neg (by simp)]
      exact h.2 i
    | some j0 =>
      obtain ⟨j, rfl⟩ : ∃ j : Nat, j = j0 := ⟨j0, rfl⟩
      show XR ν _ ((a.tmps.setIfInBounds j v).getD i undef)
      have hn := h.1
      by_cases hi : j = i
      · subst hi
        by_cases hlt : j < e.n
        · rw [if_pos ⟨rfl, hlt⟩]
          have : (a.tmps.setIfInBounds j v).getD j undef = v := by
            have hj : j < a.tmps.size := by omega
            simp [Array.getD_eq_getD_getElem?, Array.getElem?_setIfInBounds, hj]
          rw [this]; exact hx
        · rw [if_neg (fun h => hlt h.2)]
          have : (a.tmps.setIfInBounds j v).getD j undef = a.tmps.getD j undef := by
            have hj : ¬ j < a.tmps.size := by omega
            simp [Array.getD_eq_getD_getElem?, Array.getElem?_setIfInBounds, hj]
          rw [this]; exact h.2 j
      · rw [if_neg (by simp [hi])]
        have : (a.tmps.setIfInBounds j v).getD i undef = a.tmps.getD i undef := by
          simp [Array.getD_eq_getD_getElem?, hi]
        rw [this]; exact h.2 i
  refine ⟨?_, hg⟩
  rw [Env.n_putD, h.1]
  cases d with
  | none => rfl
  | some j => simp [Act.put]

theorem EnvR.get {ν : Ren} {e : Env} {tmps : Array Value} (h : EnvR ν e.t e.n tmps) (i : Nat) : XR ν (e.get i) (tmps.getD i undef) := h.2 i

theorem EnvR.congr {ν : Ren} {e e' : Env} {tmps : Array Value} (h : EnvR ν e.t e.n tmps) (hn : e'.n = e.n) (hg : ∀ t, e'.get t = e.get t) : EnvR ν e'.t e'.n tmps :=
  ⟨hn.trans h.1, fun i => by have := hg i; unfold Env.get at this; rw [this]; exact h.2 i⟩

theorem EnvR.mono {ν ν' : Ren} (hle : ν.le ν') {e : Env} {tmps : Array Value} (h : EnvR ν e.t e.n tmps) : EnvR ν' e.t e.n tmps := ⟨h.1, fun i => (h.2 i).mono hle⟩

theorem ev_tmps {ν : Ren} {env : Env} {a : Act} {x : Operand} (h : ∀ t, x = .tmp t → XR ν (env.get t) (a.tmps.getD t undef)) (hx : operOk x = true) : XR ν (env.ev x) (a.eval x) := by
  cases x with
  | tmp t => exact h t rfl
  | const v => exact ofConst_XR ν hx
  | global g => exact rfl
  | func f => exact ⟨#[], #[], rfl, trivial, trivial⟩

/-- Whether an operation is wanted. -/
theorem wanted_run {ν : Ren} {ops : List Oper} {env : Env} {o : Oper} {a : Act} {b : Bool} (hg : ∀ g w d oj, o.guard = some (g, w) → ops[g]? = some oj → oj.dst = some d → XR ν (env.get d) (a.tmps.getD d undef))
    (h : wantedV ops env o = some b) : Region.wanted o (yielded ops.toArray a.tmps) = b := by
  unfold wantedV at h
  unfold Region.wanted
  cases hgd : o.guard with
  | none => rw [hgd] at h; cases h; rfl
  | some gw =>
    obtain ⟨g, want⟩ := gw
    rw [hgd] at h
    simp only at h ⊢
    unfold yielded
    rw [List.getElem?_toArray]
    cases hj : ops[g]? with
    | none => rw [hj] at h; cases h; rfl
    | some oj =>
      rw [hj] at h
      simp only at h
      rw [Option.bind_some]
      cases hd : oj.dst with
      | none => rw [hd] at h; cases h; rfl
      | some d =>
        rw [hd] at h
        simp only at h
        rw [Option.bind_some]
        have hx := hg g want d oj hgd hj hd
        have hgd' : a.tmps.getD d undef = (a.tmps[d]?).getD undef := by simp [Array.getD_eq_getD_getElem?]
        rw [hgd'] at hx
        split at h
        · rename_i b0 he
          rw [he] at hx
          have hv : (a.tmps[d]?).getD undef = .bool b0 := hx
          cases hq : a.tmps[d]? with
          | none => rw [hq] at hv; cases hv
          | some v =>
            rw [hq] at hv
            simp only [Option.getD_some] at hv
            subst hv
            cases h
            cases b0 <;> cases want <;> rfl
        · cases h
        · rename_i h1 h2
          cases h
          have hn : ∀ b0, a.tmps[d]? ≠ some (.bool b0) := by
            intro b0 hq
            rw [hq] at hx
            simp only [Option.getD_some] at hx
            cases he : env.get d with
            | tup l => rw [he] at hx; obtain ⟨vs, e, _⟩ := hx; cases e
            | y y =>
              cases y with
              | agg l => rw [he] at hx; obtain ⟨vs, e, _⟩ := hx; cases e
              | v v =>
                rw [he] at hx
                cases v with
                | bool b1 => exact h1 b1 he
                | bad => exact h2 he
                | ptr b o => obtain ⟨l, _, e⟩ := hx; cases e
                | slice b o l c p => obtain ⟨l, _, _, _, e, _⟩ := hx; cases e
                | map b => obtain ⟨l, _, e⟩ := hx; cases e
                | func f p q => obtain ⟨F, C, e, _⟩ := hx; cases e
                | yield b => obtain ⟨l, _, e⟩ := hx; cases e
                | capGe k => obtain ⟨n, e, _⟩ := hx; cases e
                | _ => cases hx
          cases hq : a.tmps[d]? with
          | none => rfl
          | some v =>
            cases v with
            | bool b0 => exact absurd hq (hn b0)
            | _ => rfl
end Go.Abs
