/- The table of functions, out of the program. -/
import Derived.Test.YtadhbmnpokmgcaaGreatDoorA34
namespace Go.Abs
open Go Go.RowKit

/-- What the table adds to the program's text: whether outcomes are joined, and the plans. -/
structure FX where
  join : Bool
  plans : Tr Plan

noncomputable def fiAt (P : Program) (i : Nat) (x : FX) : Option FI :=
  match P.funcs[i]? with
  | some fn =>
    match fn.body with
    | some b => bif fn.name == "runtime.NumGoroutine" then none else some ⟨b, fn.ntmps, fn.results.toList, x.join, x.plans⟩
    | none => none
  | none => none

noncomputable def mapTr {α β : Type} (f : Nat → α → Option β) (t : Tr α) : Nat → Nat → Tr β :=
  Tr.rec (motive := fun _ => Nat → Nat → Tr β) (fun _ _ => .e)
    (fun x _ _ il ir a b => .n (x.bind (f b)) (il (2 * a) (a + b)) (ir (2 * a) (2 * a + b))) t

theorem mapTr_get {α β : Type} {f : Nat → α → Option β} : ∀ (t : Tr α) (a b j : Nat) (y : β), (mapTr f t a b).get j = some y → ∃ x, f (a * j + b) x = some y
  | .e, _, _, _, _, h => by cases h
  | .n x l r, a, b, j, y, h => by
    have hm : mapTr f (.n x l r) a b = .n (x.bind (f b)) (mapTr f l (2 * a) (a + b)) (mapTr f r (2 * a) (2 * a + b)) := rfl
    rw [hm, Tr.get_n] at h
    by_cases h0 : j = 0
    · subst h0
      rw [if_pos rfl] at h
      obtain ⟨z, _, hz⟩ := Option.bind_eq_some_iff.1 h
      exact ⟨z, by rw [Nat.mul_zero, Nat.zero_add]; exact hz⟩
    · rw [if_neg h0] at h
      by_cases h1 : j % 2 = 1
      · rw [if_pos h1] at h
        obtain ⟨z, hz⟩ := mapTr_get l (2 * a) (a + b) (j / 2) y h
        refine ⟨z, ?_⟩
        have e : 2 * a * (j / 2) + (a + b) = a * j + b := by
          have hj : j = 2 * (j / 2) + 1 := by omega
          generalize j / 2 = k at hj
          subst hj
          rw [Nat.mul_add, Nat.mul_comm 2 a, Nat.mul_assoc]
          omega
        rw [e] at hz
        exact hz
      · rw [if_neg h1] at h
        obtain ⟨z, hz⟩ := mapTr_get r (2 * a) (2 * a + b) (j / 2 - 1) y h
        refine ⟨z, ?_⟩
        have e : 2 * a * (j / 2 - 1) + (2 * a + b) = a * j + b := by
          obtain ⟨k, hk⟩ : ∃ k, j = 2 * k + 2 := ⟨j / 2 - 1, by omega⟩
          subst hk
          rw [show (2 * k + 2) / 2 - 1 = k by omega, Nat.mul_add, Nat.mul_comm 2 a, Nat.mul_assoc]
          omega
        rw [e] at hz
        exact hz

theorem fiOk_of {P : Program} {c : Ctx} {t : Tr FX} (h : c.fi = mapTr (fiAt P) t 1 0) (hk : trAll (fun _ fi => codeOk c fi.plans fi.body) c.fi 1 0 = true) : FiOk P c := by
  intro f fi hg
  have hok := trAll_get c.fi 1 0 f fi hk hg
  rw [h] at hg
  obtain ⟨x, hx⟩ := mapTr_get t 1 0 f fi hg
  rw [Nat.one_mul, Nat.add_zero] at hx
  unfold fiAt at hx
  cases hf : P.funcs[f]? with
  | none => rw [hf] at hx; cases hx
  | some fn =>
    rw [hf] at hx
    simp only at hx
    cases hb : fn.body with
    | none => rw [hb] at hx; cases hx
    | some b =>
      rw [hb] at hx
      simp only at hx
      cases hn : (fn.name == "runtime.NumGoroutine") with
      | true => rw [hn] at hx; cases hx
      | false =>
        rw [hn] at hx
        cases hx
        exact ⟨fn, rfl, hb, rfl, rfl, hn, hok⟩
end Go.Abs
