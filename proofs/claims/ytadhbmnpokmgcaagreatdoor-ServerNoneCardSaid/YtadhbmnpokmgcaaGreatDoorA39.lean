/- From a closed run to a call in whatever memory; arguments of which nothing is known. -/
import Derived.Test.YtadhbmnpokmgcaaGreatDoorA38
import GoSem.ClaimWide
import GoSem.ClaimGoes
namespace Go.Abs
open Go Go.RowKit

theorem okWide_one {P : Program} {w : World} {r : Reach} {base : Nat} {t : TypeId} {v : Value} (h : Cell.okWide P w r base t v) : v.oneCell' = true := by
  cases v with
  | agg cs =>
    exfalso
    unfold Cell.okWide Cell.ok at h
    cases hu : P.underlying t with
    | none => rw [hu] at h; exact h
    | some d => rw [hu] at h; cases d <;> exact h
  | tuple cs =>
    exfalso
    unfold Cell.okWide Cell.ok at h
    cases hu : P.underlying t with
    | none => rw [hu] at h; exact h
    | some d => rw [hu] at h; cases d <;> exact h
  | _ => rfl

theorem bads_R (ν : Ren) : ∀ {l : List Value}, (∀ v ∈ l, v.oneCell' = true) → LRel (VR ν) (List.replicate l.length .bad) l
  | [], _ => trivial
  | v :: l, h => ⟨h v List.mem_cons_self, bads_R ν fun u hu => h u (List.mem_cons_of_mem _ hu)⟩

/-- A struct or an array of which nothing is known. -/
theorem bad_agg (ν : Ren) {P : Program} {w : World} {r : Reach} {base n : Nat} {t : TypeId} {cs : Array Value} (h : Row.okWide P w r base t cs) (hn : cs.size = n) : YR ν (.agg (List.replicate n .bad)) (.agg cs) := by
  refine ⟨cs, rfl, ?_⟩
  have e : n = cs.toList.length := by rw [← hn]; simp
  rw [e]
  refine bads_R ν fun v hv => ?_
  obtain ⟨i, hi⟩ := List.mem_iff_getElem?.1 hv
  obtain ⟨ts, _, _, hall⟩ := h
  obtain ⟨u, _, hu⟩ := hall i v (by rw [← Array.getElem?_toList]; exact hi)
  exact okWide_one hu

theorem bad_one (ν : Ren) {P : Program} {w : World} {r : Reach} {base : Nat} {t : TypeId} {v : Value} (h : Cell.okWide P w r base t v) : YR ν (.v .bad) v := okWide_one h

/-- No text starts a goroutine: so no call does. -/
theorem goes_none {P : Program} {c : OpenClaim} (h : P.funcs.any Func.goes = false) (hs : c.start = .entering) : false = c.goesBy P := by
  have h1 : ∀ g : Nat, (P.funcs[g]?).any Func.goes = false := fun g => by
    cases hg : P.funcs[g]? with
    | none => rfl
    | some fn =>
      obtain ⟨hlt, he⟩ := Array.getElem?_eq_some_iff.1 hg
      cases hf : fn.goes with
      | false => exact hf
      | true =>
        have : P.funcs.any Func.goes = true := Array.any_eq_true.2 ⟨g, hlt, by rw [he]; exact hf⟩
        rw [h] at this; cases this
  have h2 : ∀ f, P.goes f = false := fun f => by
    unfold Program.goes
    have e : ((P.closure f).any fun g => (P.funcs[g]?).any Func.goes) = false := by
      rw [show (fun g => (P.funcs[g]?).any Func.goes) = fun _ => false from funext h1]
      exact List.any_eq_false.2 fun _ _ => by simp
    rw [e, h, Bool.and_false]
    rfl
  unfold OpenClaim.goesBy Program.goesAt Program.goesFrom
  rw [hs]
  cases P.funcNamed c.func with
  | none => rfl
  | some f => simp [h2 f]

theorem and_both {a b : Bool} (h : a = true) (k : b = true) : (a && b) = true := by rw [h, k]; rfl

/-- A closed run is a call's, in whatever memory. -/
theorem run_walk {P : Program} {c : Ctx} {r : Rec} {K : CodeP} (hrec : ∀ B w0, RecSound K B w0 P c r) {g : FuncId} {ys : List Y} {x : X} (hcl : closedRet (r.call g ys emptyH) x = true) (hp : c.prim g = none) {vs : Array Value} {w : World}
    (hv : LRel (YR (fun _ => none)) ys vs.toList) : Calls P g vs w fun e w' => (∃ v ν, e = .returned v ∧ XR ν x v) ∧ Below w.heap.size w w' := by
  have hrun : (r.call g ys emptyH).all (fun p => p.1 = x) := by
    unfold closedRet at hcl
    split at hcl
    · rename_i p hp
      rw [hp]
      show p.1 = x
      exact of_decide_eq_true hcl
    · cases hcl
  have := ((hrec w.heap.size w).plain 0 (fun _ => none) emptyH w g ys vs _ (HR.empty K w) hv hrun hp).2
  refine (callsIn_wide.1 this).mono fun e w' hR => ?_
  cases e with
  | returned v =>
    obtain ⟨x', h', ν', e1, hxr, hr', _⟩ := hR
    have e1 : x' = x := e1
    subst e1
    exact ⟨⟨v, ν', rfl, hxr⟩, hr'.below⟩
  | panicked ch => exact hR.elim
  | outgrown => exact hR.elim
end Go.Abs
