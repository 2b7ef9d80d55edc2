/- The program's tables, and operations that need no memory. -/
import Derived.Test.YtadhbmnpokmgcaaGreatDoorA5
import Derived.Test.YtadhbmnpokmgcaaGreatDoorTab
import Derived.Laws.Sem
namespace Go.Abs
open Go Go.RowKit

/-! ### Runs, step by step -/
section run
variable {α β : Type} {P : Program} {w w1 : World}
theorem rb {s : Sem α} {a : α} (h : s.run P w = .ok a w1) (f : α → Sem β) : (s >>= f).run P w = (f a).run P w1 := by
  rw [Sem.run_bind, h]; rfl
theorem rp (a : α) : (Pure.pure a : Sem α).run P w = .ok a w := rfl
end run

theorem plainCell_VR (ν : Ren) {v : Value} (h : plainCell v = true) : VR ν (ofCell v) v := by
  cases v with
  | bool b => rfl
  | int k n => rfl
  | string s => rfl
  | pointer a => cases a with
    | none => rfl
    | some a => cases h
  | slice a n c =>
    cases a with
    | none =>
      cases n with
      | zero => cases c with
        | zero => rfl
        | succ c => cases h
      | succ n => cases h
    | some a => cases h
  | map r => cases r with
    | none => rfl
    | some r => cases h
  | nilFunc => rfl
  | nilIface => rfl
  | chan r => cases r with
    | none => rfl
    | some r => cases h
  | float k b => rfl
  | complex k a b => rfl
  | func f a b => cases h
  | iface t v => cases h
  | agg cs => cases h
  | tuple vs => cases h

theorem plain_LRel (ν : Ren) : ∀ {l : List Value}, l.all plainCell = true → LRel (VR ν) (l.map ofCell) l
  | [], _ => trivial
  | v :: l, h => by
    simp only [List.all_cons, Bool.and_eq_true] at h
    exact ⟨plainCell_VR ν h.1, plain_LRel ν h.2⟩

/-! ### Tables -/
structure CtxOk (P : Program) (c : Ctx) : Prop where
  ti : ∀ t i, c.ti.get t = some i → tiOf P t = some i

/-- What a type's row tells. -/
structure TIok (P : Program) (t : Nat) (i : TI) (d : TypeDesc) (inf : TypeInfo) (z : Value) : Prop where
  und : P.underlying t = some d
  info : P.info? t = some inf
  zero : inf.zero = some z
  zok : zeroOk (isAggD d) inf.size z = true
  eq : i = { d := tdOf P d, agg := isAggD d, size := inf.size, bytes := inf.bytes, zero := z.cells.toList.map ofCell, cmp := cmpT P t }

section tables
variable {P : Program} {c : Ctx} (hc : CtxOk P c) {t : Nat} {i : TI}
include hc
theorem tiok (h : c.ti.get t = some i) : ∃ d inf z, TIok P t i d inf z := by
  have h := hc.ti t i h
  unfold tiOf at h
  cases hu : P.underlying t with
  | none => rw [hu] at h; cases h
  | some d =>
    cases hi : P.info? t with
    | none => rw [hu, hi] at h; cases h
    | some inf =>
      rw [hu, hi] at h
      simp only at h
      cases hz : inf.zero with
      | none => rw [hz] at h; cases h
      | some z =>
        rw [hz] at h
        simp only at h
        cases hk : zeroOk (isAggD d) inf.size z with
        | false => rw [hk] at h; cases h
        | true =>
          rw [hk] at h
          simp only [cond_true, Option.some.injEq] at h
          exact ⟨d, inf, z, hu, hi, hz, hk, h.symm⟩
end tables

namespace TIok
variable {P : Program} {t : Nat} {i : TI} {d : TypeDesc} {inf : TypeInfo} {z : Value} (h : TIok P t i d inf z)
include h
theorem run_und (w : World) : (underlying t).run P w = .ok d w := run_underlying h.und w
theorem run_info (w : World) : (typeInfo t).run P w = .ok inf w := by simp [typeInfo, h.info]
theorem run_size (w : World) : (sizeOf t).run P w = .ok i.size w := by
  rw [show sizeOf t = (do pure (← typeInfo t).size) from rfl, rb (h.run_info w), h.eq]; rfl
theorem run_zero (w : World) : (zeroValue t).run P w = .ok z w := by
  rw [show zeroValue t = (do match (← typeInfo t).zero with | some v => pure v | none => unsupported (.resourceLimit "a value of more than 2^22 cells")) from rfl, rb (h.run_info w), h.zero]; rfl
theorem run_isAgg (w : World) : (isAgg t).run P w = .ok i.agg w := by
  unfold isAgg
  rw [rb (h.run_und w), h.eq]
  cases d <;> rfl
theorem zcells : z.cells.toList.all plainCell = true ∧ z.cells.toList.length = i.size := by
  have := h.zok
  unfold zeroOk at this
  simp only [Bool.and_eq_true] at this
  refine ⟨this.1.1, ?_⟩
  have h2 := this.1.2
  rw [beq_dec, decide_eq_true_iff] at h2
  rw [h2, h.eq]
theorem zeroR (ν : Ren) : LRel (VR ν) i.zero z.cells.toList := by
  rw [h.eq]; exact plain_LRel ν h.zcells.1
theorem zlen : i.zero.length = i.size := by
  rw [(h.zeroR (fun _ => none)).length]; exact h.zcells.2
theorem zagg : (∃ cs, z = .agg cs) ∧ i.agg = true ∨ z.oneCell' = true ∧ i.agg = false := by
  have := h.zok
  unfold zeroOk at this
  simp only [Bool.and_eq_true] at this
  have h3 := this.2
  have e : i.agg = isAggD d := by rw [h.eq]
  cases z with
  | agg cs => exact .inl ⟨⟨cs, rfl⟩, e.trans h3⟩
  | tuple cs => cases h3
  | _ => exact .inr ⟨rfl, by rw [e]; simpa using h3⟩
/-- The zero value, as the interpreter has it. -/
theorem zeroY (ν : Ren) : YR ν (bif i.agg then .agg i.zero else .v (i.zero.headD .bad)) z := by
  have hz := h.zeroR ν
  rcases h.zagg with ⟨⟨cs, rfl⟩, ha⟩ | ⟨ho, ha⟩
  · rw [ha]; exact ⟨cs, rfl, hz⟩
  · rw [ha]
    rw [cells_of_oneCell ho] at hz
    cases hzl : i.zero with
    | nil => rw [hzl] at hz; exact hz.elim
    | cons a l => rw [hzl] at hz; exact hz.1
theorem desc_int {k : IntKind} (e : i.d = .int k) : d = .int k := by
  rw [h.eq] at e
  cases d with
  | struct fs => cases hb : structOk P fs <;> simp [tdOf, hb] at e
  | _ => simp [tdOf] at e; try rw [e]
theorem desc_str (e : i.d = .str) : d = .string := by
  rw [h.eq] at e
  cases d with
  | struct fs => cases hb : structOk P fs <;> simp [tdOf, hb] at e
  | _ => simp [tdOf] at e; try rfl
theorem desc_slice {n : Nat} (e : i.d = .slice n) : d = .slice n := by
  rw [h.eq] at e
  cases d with
  | struct fs => cases hb : structOk P fs <;> simp [tdOf, hb] at e
  | _ => simp [tdOf] at e; try rw [e]
theorem desc_array {n m : Nat} (e : i.d = .array n m) : d = .array n m := by
  rw [h.eq] at e
  cases d with
  | struct fs => cases hb : structOk P fs <;> simp [tdOf, hb] at e
  | _ => simp [tdOf] at e; try rw [e.1, e.2]
theorem desc_map {n m : Nat} (e : i.d = .map n m) : d = .map n m := by
  rw [h.eq] at e
  cases d with
  | struct fs => cases hb : structOk P fs <;> simp [tdOf, hb] at e
  | _ => simp [tdOf] at e; try rw [e.1, e.2]
theorem desc_struct {l : List (Nat × Nat)} (e : i.d = .struct l) : ∃ fs, d = .struct fs ∧ l = fs.toList.map (fun f => (f.offset, f.type)) ∧
    ∀ f ∈ fs.toList, ∃ inf, P.info? f.type = some inf ∧ 1 ≤ inf.size := by
  rw [h.eq] at e
  cases d with
  | struct fs =>
    cases hb : structOk P fs with
    | false => simp [tdOf, hb] at e
    | true =>
      simp only [tdOf, hb, cond_true, TD.struct.injEq] at e
      refine ⟨fs, rfl, e.symm, fun f hf => ?_⟩
      have := List.all_eq_true.1 hb f hf
      cases hi : P.info? f.type with
      | none => rw [hi] at this; cases this
      | some inf => rw [hi] at this; exact ⟨inf, rfl, Nat.le_of_ble_eq_true this⟩
  | _ => simp [tdOf] at e
end TIok
end Go.Abs
