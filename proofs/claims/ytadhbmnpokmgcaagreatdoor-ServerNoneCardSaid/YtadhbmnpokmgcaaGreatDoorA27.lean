/- Scopes whose jumps go back into them; what is looked at ahead of a proof, of code. -/
import Derived.Test.YtadhbmnpokmgcaaGreatDoorA26
import Derived.LoopNIn
namespace Go.Abs
open Go Go.RowKit

section scope
variable {F : Fence} {n : Nat} {P : Program}

def jumpPost (next : Code → Act → World → Prop) (whole : Code) (Q : Exit → Act → World → Prop) : Exit → Act → World → Prop
  | .goto l, a, w => match findLabel whole l with
    | some rest => next rest a w
    | none => Q (.goto l) a w
  | e, a, w => Q e a w

def jumpsIn (F : Fence) (n : Nat) (P : Program) (whole : Code) (Q : Exit → Act → World → Prop) : Nat → Code → Act → World → Prop
  | 0, _, _, _ => False
  | m + 1, code, a, w => code.wpIn F n P (jumpPost (jumpsIn F n P whole Q m) whole Q) a w

theorem stepR_scope {b : Frame} {a : Act} {k : List Item} {cs : List Frame} {w : World} {c : Code} : step P (lone (b.atR a (.code (.scope c) :: k)) cs w) = .next (lone (b.atR a (.code c :: .inScope c :: k)) cs w) :=
  step_lone_go (by simp [stepG, stepG.exec, Frame.atR])
theorem stepR_inScope {b : Frame} {a : Act} {k : List Item} {cs : List Frame} {w : World} {c : Code} : step P (lone (b.atR a (.inScope c :: k)) cs w) = .next (lone (b.atR a k) cs w) :=
  step_lone_go (by simp [stepG, stepG.exec, Frame.atR])

theorem wpIn_scope {c : Code} {Q : Exit → Act → World → Prop} {a : Act} {w : World} (m : Nat) (h : c.wpIn F n P (jumpPost (jumpsIn F n P c Q m) c Q) a w) : (Code.scope c).wpIn F n P Q a w := by
  intro b k cs hro hb hr
  have key : ∀ (m : Nat) (code : Code) (a : Act) (w : World), code.wpIn F n P (jumpPost (jumpsIn F n P c Q m) c Q) a w →
      ∃ e a' w', Q e a' w' ∧ ArrivesIn (Machine.fenced P F) P (lone (b.atR a (.code code :: .inScope c :: k)) cs w) b k cs e a' w' := by
    intro m
    induction m with
    | zero =>
      intro code a w h
      obtain ⟨e, a₁, w₁, hq, harr⟩ := h b (.inScope c :: k) cs hro hb hr
      cases e with
      | normal => exact ⟨.normal, a₁, w₁, hq, StepsIn.trans harr (.one (fenced_calm hb hr rfl) stepR_inScope)⟩
      | exit id => exact ⟨.exit id, a₁, w₁, hq, fun k' hk => harr.1 k' (by simp [exitTo, hk]), fun h1 h2 => harr.2 h1 (by simp [exitTo, h2])⟩
      | goto l =>
        simp only [jumpPost] at hq
        cases hl : findLabel c l with
        | some rest => rw [hl] at hq; exact hq.elim
        | none =>
          rw [hl] at hq
          have hg : gotoIn l (.inScope c :: k) = gotoIn l k := by simp [gotoIn, hl]
          exact ⟨.goto l, a₁, w₁, hq, fun k' hk => harr.1 k' (by rw [hg]; exact hk), fun h1 h2 => harr.2 h1 (by rw [hg]; exact h2)⟩
      | ret => exact ⟨_, a₁, w₁, hq, harr⟩
      | panic ch => exact ⟨_, a₁, w₁, hq, harr⟩
      | outgrown => exact ⟨_, a₁, w₁, hq, harr⟩
    | succ m ih =>
      intro code a w h
      obtain ⟨e, a₁, w₁, hq, harr⟩ := h b (.inScope c :: k) cs hro hb hr
      cases e with
      | normal => exact ⟨.normal, a₁, w₁, hq, StepsIn.trans harr (.one (fenced_calm hb hr rfl) stepR_inScope)⟩
      | exit id => exact ⟨.exit id, a₁, w₁, hq, fun k' hk => harr.1 k' (by simp [exitTo, hk]), fun h1 h2 => harr.2 h1 (by simp [exitTo, h2])⟩
      | goto l =>
        simp only [jumpPost] at hq
        cases hl : findLabel c l with
        | some rest =>
          rw [hl] at hq
          have hg : gotoIn l (.inScope c :: k) = some (.code rest :: .inScope c :: k) := by simp [gotoIn, hl]
          obtain ⟨e₂, a₂, w₂, hq₂, harr₂⟩ := ih rest a₁ w₁ hq
          exact ⟨e₂, a₂, w₂, hq₂, .of_steps (harr.1 _ hg) harr₂⟩
        | none =>
          rw [hl] at hq
          have hg : gotoIn l (.inScope c :: k) = gotoIn l k := by simp [gotoIn, hl]
          exact ⟨.goto l, a₁, w₁, hq, fun k' hk => harr.1 k' (by rw [hg]; exact hk), fun h1 h2 => harr.2 h1 (by rw [hg]; exact h2)⟩
      | ret => exact ⟨_, a₁, w₁, hq, harr⟩
      | panic ch => exact ⟨_, a₁, w₁, hq, harr⟩
      | outgrown => exact ⟨_, a₁, w₁, hq, harr⟩
  obtain ⟨e, a', w', hq, harr⟩ := key m c a w h
  exact ⟨e, a', w', hq, .of_steps (.one (fenced_calm hb hr rfl) stepR_scope) harr⟩
end scope

/-! ### Code, looked at ahead -/
noncomputable def codeOk (c : Ctx) (plans : Tr Plan) (code : Code) : Bool :=
  Code.rec (motive := fun _ => Bool)
    (skip := true)
    (region := fun id ops draw =>
      bif draw then (match plans.get id with | some p => regionOk c p ops.toList | none => true)
      else ops.toList.all fun o => o.op.operands.toList.all operOk)
    (seq := fun _ _ iha ihb => iha && ihb)
    (cond := fun x _ _ iha ihb => operOk x && iha && ihb)
    (block := fun _ _ ih => ih)
    (loop := fun _ ih => ih)
    (rangeFunc := fun f _ _ _ iha ihb => operOk f && iha && ihb)
    (exit := fun _ => true)
    (scope := fun _ ih => ih)
    (label := fun _ => true)
    (goto := fun _ => true)
    (ret := true)
    (refuse := fun _ => true)
    code

theorem codeOk_label {c : Ctx} {plans : Tr Plan} : ∀ (code : Code) (l : Nat) (rest : Code), codeOk c plans code = true → findLabel code l = some rest → codeOk c plans rest = true := by
  intro code
  induction code with
  | seq a b iha ihb =>
    intro l rest h hf
    have h : (codeOk c plans a && codeOk c plans b) = true := h
    rw [Bool.and_eq_true] at h
    unfold findLabel at hf
    cases hl : findLabel a l with
    | some r =>
      rw [hl] at hf
      cases hf
      show (codeOk c plans r && codeOk c plans b) = true
      rw [Bool.and_eq_true]
      exact ⟨iha l r h.1 hl, h.2⟩
    | none =>
      rw [hl] at hf
      exact ihb l rest h.2 hf
  | label l' =>
    intro l rest h hf
    unfold findLabel at hf
    split at hf
    · cases hf; rfl
    · cases hf
  | _ => intro l rest h hf; simp [findLabel] at hf

/-- The code of a function of the table. -/
def KOf (c : Ctx) : CodeP := fun fn code => ∃ fi, c.fi.get fn = some fi ∧ codeOk c fi.plans code = true
end Go.Abs
