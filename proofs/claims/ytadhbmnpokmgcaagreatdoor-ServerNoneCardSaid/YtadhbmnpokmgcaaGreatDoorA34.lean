/- The tables, looked at. -/
import Derived.Test.YtadhbmnpokmgcaaGreatDoorA33
namespace Go.Abs
open Go Go.RowKit

noncomputable def trAll {α : Type} (p : Nat → α → Bool) (t : Tr α) : Nat → Nat → Bool :=
  Tr.rec (motive := fun _ => Nat → Nat → Bool) (fun _ _ => true)
    (fun x _ _ il ir a b => (match x with | some x => p b x | none => true) && il (2 * a) (a + b) && ir (2 * a) (2 * a + b)) t

noncomputable def nodeOk {α : Type} (p : Nat → α → Bool) (b : Nat) : Option α → Bool
  | some x => p b x
  | none => true

theorem trAll_get {α : Type} {p : Nat → α → Bool} : ∀ (t : Tr α) (a b j : Nat) (x : α), trAll p t a b = true → t.get j = some x → p (a * j + b) x = true
  | .e, _, _, _, _, _, h => by cases h
  | .n y l r, a, b, j, x, h, hg => by
    have h : (nodeOk p b y && trAll p l (2 * a) (a + b) && trAll p r (2 * a) (2 * a + b)) = true := h
    simp only [Bool.and_eq_true] at h
    rw [Tr.get_n] at hg
    by_cases h0 : j = 0
    · subst h0
      rw [if_pos rfl] at hg
      subst hg
      have := h.1.1
      rw [Nat.mul_zero, Nat.zero_add]
      exact this
    · rw [if_neg h0] at hg
      by_cases h1 : j % 2 = 1
      · rw [if_pos h1] at hg
        have := trAll_get l (2 * a) (a + b) (j / 2) x h.1.2 hg
        have e : 2 * a * (j / 2) + (a + b) = a * j + b := by
          have hj : j = 2 * (j / 2) + 1 := by omega
          generalize j / 2 = k at hj
          subst hj
          rw [Nat.mul_add, Nat.mul_comm 2 a, Nat.mul_assoc]
          omega
        rw [e] at this
        exact this
      · rw [if_neg h1] at hg
        have := trAll_get r (2 * a) (2 * a + b) (j / 2 - 1) x h.2 hg
        have e : 2 * a * (j / 2 - 1) + (2 * a + b) = a * j + b := by
          obtain ⟨k, hk⟩ : ∃ k, j = 2 * k + 2 := ⟨j / 2 - 1, by omega⟩
          subst hk
          rw [show (2 * k + 2) / 2 - 1 = k by omega, Nat.mul_add, Nat.mul_comm 2 a, Nat.mul_assoc]
          omega
        rw [e] at this
        exact this

noncomputable def tiCheck (P : Program) (t : Tr TI) : Bool := trAll (fun i x => decide (tiOf P i = some x)) t 1 0

theorem ctxOk_of {P : Program} {c : Ctx} (h : tiCheck P c.ti = true) : CtxOk P c :=
  ⟨fun t i hg => by
    have := trAll_get c.ti 1 0 t i h hg
    rw [Nat.one_mul, Nat.add_zero] at this
    exact of_decide_eq_true this⟩
end Go.Abs
