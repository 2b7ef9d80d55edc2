/- Operations that need no memory: the theorem. -/
import Derived.Test.YtadhbmnpokmgcaaGreatDoorA9
import Derived.Laws.Strings
namespace Go.Abs
open Go Go.RowKit

section small
variable {P : Program} {c : Ctx} {ν : Ren} {w : World}

theorem vrun {s : Sem Value} {v : Value} {w' : World} (h : s.run P w = .ok v w') : (do pure (.value (← s)) : Sem Next).run P w = .ok (.value v) w' := by
  rw [rb h]; rfl

theorem evParts_R {env : Env} {a : Act} : ∀ (l : List (Nat × Operand)) (r : List (Nat × Y)), evParts env l = some r → EvR ν env a (l.map (·.2)) →
    LRel (fun (x : Nat × Y) (y : Nat × Value) => x.1 = y.1 ∧ YR ν x.2 y.2) r (l.map fun p => (p.1, a.eval p.2))
  | [], r, h, _ => by cases h; trivial
  | (i, x) :: l, r, h, he => by
    unfold evParts at h
    cases hx : env.ev x with
    | tup _ => rw [hx] at h; cases h
    | y y =>
      rw [hx] at h
      simp only [Option.map_eq_some_iff] at h
      obtain ⟨r', hr, rfl⟩ := h
      exact ⟨⟨rfl, (he x (by simp)).yy hx⟩, evParts_R l r' hr fun z hz => he z (by simp at hz ⊢; exact .inr hz)⟩

theorem evArgs_R {env : Env} {a : Act} : ∀ (l : List Operand) (r : List Y), evArgs env l = some r → EvR ν env a l → LRel (YR ν) r (l.map a.eval)
  | [], r, h, _ => by cases h; trivial
  | x :: l, r, h, he => by
    unfold evArgs at h
    cases hx : env.ev x with
    | tup _ => rw [hx] at h; cases h
    | y y =>
      rw [hx] at h
      simp only [Option.map_eq_some_iff] at h
      obtain ⟨r', hr, rfl⟩ := h
      exact ⟨(he x (by simp)).yy hx, evArgs_R l r' hr fun z hz => he z (by simp [hz])⟩

theorem evPtrs_R {env : Env} {a : Act} : ∀ (l : List Operand) (r : List (Nat × Nat)), evPtrs env l = some r → EvR ν env a l → LRel (PtrR ν) r (l.map a.eval)
  | [], r, h, _ => by cases h; trivial
  | x :: l, r, h, he => by
    unfold evPtrs at h
    split at h
    · rename_i b o hx
      simp only [Option.map_eq_some_iff] at h
      obtain ⟨r', hr, rfl⟩ := h
      exact ⟨(he x (by simp)).v hx, evPtrs_R l r' hr fun z hz => he z (by simp [hz])⟩
    · cases h

theorem boundOf_all {x : Option X} {d : Nat} {Q : Nat → Prop} (h : (boundOf x d).all Q) : ∃ n, Q n ∧ (x = none ∧ n = d ∨ ∃ k, x = some (.y (.v (.int k (.ofNat n))))) := by
  cases x with
  | none => exact ⟨d, h, .inl ⟨rfl, rfl⟩⟩
  | some x =>
    obtain ⟨v, rfl, h⟩ := (X.kv_all _ _ _).1 h
    obtain ⟨k, n, rfl, h⟩ := (V.knat_all _ _ _).1 h
    exact ⟨n, h, .inr ⟨k, rfl⟩⟩

theorem sliceBound_run {k : IntKind} {n y : Nat} (code : BoundsCode) (h : n ≤ y) : (Instr.sliceBound (.int k (.ofNat n)) y code).run P w = .ok n w := by
  unfold Instr.sliceBound
  rw [rb (s := asIntOf (.int k (.ofNat n))) (a := (k, Int.ofNat n)) (w1 := w) rfl]
  have : (0 : Int) ≤ Int.ofNat n ∧ Int.ofNat n ≤ (y : Int) := ⟨by simp, by simp; omega⟩
  simp only
  rw [if_pos this]
  rfl

/-- The three bounds of a slice expression. -/
theorem bounds_run {isSlice : Bool} {len cap : Nat} {lo hi mx : Option X} {vlo vhi vmx : Option Value} {l h m : Nat}
    (rlo : ∀ x, lo = some x → ∃ v, vlo = some v ∧ XR ν x v) (rhi : ∀ x, hi = some x → ∃ v, vhi = some v ∧ XR ν x v) (rmx : ∀ x, mx = some x → ∃ v, vmx = some v ∧ XR ν x v)
    (nlo : lo = none → vlo = none) (nhi : hi = none → vhi = none) (nmx : mx = none → vmx = none) (hmh : mx.isSome = true → hi.isSome = true)
    (el : lo = none ∧ l = 0 ∨ ∃ k, lo = some (.y (.v (.int k (.ofNat l))))) (eh : hi = none ∧ h = len ∨ ∃ k, hi = some (.y (.v (.int k (.ofNat h)))))
    (em : mx = none ∧ m = cap ∨ ∃ k, mx = some (.y (.v (.int k (.ofNat m))))) (hm : m ≤ cap) (hh : h ≤ m) (hl : l ≤ h) :
    (Instr.sliceBounds isSlice len cap vlo vhi vmx).run P w = .ok (l, h, m) w := by
  unfold Instr.sliceBounds
  rcases em with ⟨rfl, rfl⟩ | ⟨km, rfl⟩
  · cases nmx rfl
    rw [rb (rp m)]
    rcases eh with ⟨rfl, rfl⟩ | ⟨kh, rfl⟩
    · cases nhi rfl
      rw [rb (rp h)]
      rcases el with ⟨rfl, rfl⟩ | ⟨kl, rfl⟩
      · cases nlo rfl
        rw [rb (rp 0)]; rfl
      · obtain ⟨v, rfl, hv⟩ := rlo _ rfl
        cases hv
        rw [rb (sliceBound_run _ hl)]; rfl
    · obtain ⟨v, rfl, hv⟩ := rhi _ rfl
      cases hv
      rw [rb (sliceBound_run _ hh)]
      rcases el with ⟨rfl, rfl⟩ | ⟨kl, rfl⟩
      · cases nlo rfl
        rw [rb (rp 0)]; rfl
      · obtain ⟨v, rfl, hv⟩ := rlo _ rfl
        cases hv
        rw [rb (sliceBound_run _ hl)]; rfl
  · obtain ⟨v, rfl, hv⟩ := rmx _ rfl
    cases hv
    rw [rb (sliceBound_run _ hm)]
    rcases eh with ⟨rfl, rfl⟩ | ⟨kh, rfl⟩
    · cases hmh rfl
    · obtain ⟨v, rfl, hv⟩ := rhi _ rfl
      cases hv
      rw [rb (sliceBound_run _ hh)]
      rcases el with ⟨rfl, rfl⟩ | ⟨kl, rfl⟩
      · cases nlo rfl
        rw [rb (rp 0)]; rfl
      · obtain ⟨v, rfl, hv⟩ := rlo _ rfl
        cases hv
        rw [rb (sliceBound_run _ hl)]; rfl
end small
end Go.Abs
