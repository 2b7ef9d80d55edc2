/- Operations that need no memory: what the interpreter gives is what the model's run gives. -/
import Derived.Test.YtadhbmnpokmgcaaGreatDoorA6
import Derived.Laws.StructEq
import Derived.Laws.Strings2
namespace Go.Abs
open Go Go.RowKit

/-! ### Constants and operands -/
def constOk : Value → Bool
  | .agg cs => cs.toList.all Value.oneCell'
  | .tuple ⟨[]⟩ => true
  | v => v.oneCell'

theorem ofCell_VR (ν : Ren) {v : Value} (h : v.oneCell' = true) : VR ν (ofCell v) v := by
  unfold ofCell
  split <;> first
    | rfl
    | exact ⟨_, _, rfl, trivial, trivial⟩
    | exact h

theorem ofCell_LRel (ν : Ren) : ∀ {l : List Value}, l.all Value.oneCell' = true → LRel (VR ν) (l.map ofCell) l
  | [], _ => trivial
  | v :: l, h => by
    simp only [List.all_cons, Bool.and_eq_true] at h
    exact ⟨ofCell_VR ν h.1, ofCell_LRel ν h.2⟩

theorem ofConst_XR (ν : Ren) {v : Value} (h : constOk v = true) : XR ν (ofConst v) v := by
  unfold ofConst
  split
  · rename_i cs
    exact ⟨cs, rfl, ofCell_LRel ν h⟩
  · exact ⟨#[], rfl, trivial⟩
  · rename_i h1 h2
    have ho : v.oneCell' = true := by
      unfold constOk at h
      split at h
      · exact absurd rfl (h1 _)
      · exact absurd rfl h2
      · exact h
    exact ofCell_VR ν ho

def operOk : Operand → Bool
  | .const v => constOk v
  | _ => true

def EvR (ν : Ren) (env : Env) (a : Act) (xs : List Operand) : Prop := ∀ x ∈ xs, XR ν (env.ev x) (a.eval x)

theorem ev_XR {ν : Ren} {env : Env} {a : Act} (h : EnvR ν env.t env.n a.tmps) {x : Operand} (hx : operOk x = true) : XR ν (env.ev x) (a.eval x) := by
  cases x with
  | tmp t => exact h.2 t
  | const v => exact ofConst_XR ν hx
  | global g => exact (show Value.oneCell' (.pointer (some ⟨g, 0, none⟩)) = true from rfl)
  | func f => exact ⟨_, _, rfl, trivial, trivial⟩

theorem EvR.of {ν : Ren} {env : Env} {a : Act} (h : EnvR ν env.t env.n a.tmps) {xs : List Operand} (hx : xs.all operOk = true) : EvR ν env a xs :=
  fun x hm => ev_XR h (List.all_eq_true.1 hx x hm)

theorem XR.v {ν : Ren} {x : X} {u : Value} {y : V} (h : XR ν x u) (e : x = .y (.v y)) : VR ν y u := by subst e; exact h
theorem XR.yy {ν : Ren} {x : X} {u : Value} {y : Y} (h : XR ν x u) (e : x = .y y) : YR ν y u := by subst e; exact h

/-! ### Equality -/
section equal
variable {P : Program} {w : World}

theorem eqScalar_inv {d : TD} {a b : V} {r : Bool} (h : eqScalar d a b = some r) :
    (d = .bool ∧ ∃ x y, a = .bool x ∧ b = .bool y ∧ r = (x == y)) ∨ (∃ k0, d = .int k0 ∧ ∃ k x y, a = .int k x ∧ b = .int k y ∧ r = (x == y)) ∨
    (d = .str ∧ ∃ x y, a = .str x ∧ b = .str y ∧ r = (x == y)) := by
  unfold eqScalar at h
  split at h
  · exact .inl ⟨rfl, _, _, rfl, rfl, (Option.some.inj h).symm⟩
  · rename_i k0 k x k' y
    by_cases hk : k = k'
    · subst hk
      simp only [IntKind.beqV, decide_true, cond_true, Option.some.injEq] at h
      exact .inr (.inl ⟨k0, rfl, k, x, y, rfl, rfl, by rw [← h, intEq_eq]⟩)
    · simp [IntKind.beqV, hk] at h
  · rename_i x y
    exact .inr (.inr ⟨rfl, x, y, rfl, rfl, by rw [← Option.some.inj h, bytesEq_eq]⟩)
  · cases h

theorem scalarT_und {t : TypeId} {d : TD} (h : scalarT P t = some d) :
    (d = .bool ∧ P.underlying t = some .bool) ∨ (∃ k, d = .int k ∧ P.underlying t = some (.int k)) ∨ (d = .str ∧ P.underlying t = some .string) := by
  unfold scalarT at h
  split at h
  · rename_i hu; cases h; exact .inl ⟨rfl, hu⟩
  · rename_i k hu; cases h; exact .inr (.inl ⟨k, rfl, hu⟩)
  · rename_i hu; cases h; exact .inr (.inr ⟨rfl, hu⟩)
  · cases h

theorem scalar_equal {t : TypeId} {d : TD} (hs : scalarT P t = some d) {a b : V} {va vb : Value} {ν : Ren} (ha : VR ν a va) (hb : VR ν b vb) (n : Nat) {r : Bool}
    (h : eqScalar d a b = some r) : (Op.equalIn (n + 1) t va vb).run P w = .ok r w := by
  rcases eqScalar_inv h with ⟨rfl, x, y, rfl, rfl, rfl⟩ | ⟨k0, rfl, k, x, y, rfl, rfl, rfl⟩ | ⟨rfl, x, y, rfl, rfl, rfl⟩
  · rcases scalarT_und hs with ⟨_, hu⟩ | ⟨k, e, _⟩ | ⟨e, _⟩ <;> try cases e
    cases ha; cases hb
    exact run_equalIn_bool' w n t x y hu
  · rcases scalarT_und hs with ⟨e, _⟩ | ⟨k, e, hu⟩ | ⟨e, _⟩ <;> try cases e
    cases ha; cases hb
    exact run_equalIn_int w n t _ _ x y hu
  · rcases scalarT_und hs with ⟨e, _⟩ | ⟨k, e, _⟩ | ⟨_, hu⟩ <;> try cases e
    cases ha; cases hb
    rw [run_equalIn_string w n t _ _ hu, ByteArray.toList_eq, ByteArray.toList_eq]

theorem scalar_notAgg {t : TypeId} {d : TD} (hs : scalarT P t = some d) : (isAgg t).run P w = .ok false w := by
  unfold isAgg
  rcases scalarT_und hs with ⟨_, hu⟩ | ⟨k, _, hu⟩ | ⟨_, hu⟩ <;> (rw [rb (run_underlying hu w)]; rfl)

theorem scalar_part {t : TypeId} {d : TD} (hs : scalarT P t = some d) {cs : Array Value} {o : Nat} {v : Value} (hv : cs[o]? = some v) : (part t cs o).run P w = .ok v w := by
  unfold part
  rw [rb (scalar_notAgg hs)]
  simp [hv]

/-- The loop over a struct's fields, cell by cell. -/
theorem fields_equal {ν : Ren} (n : Nat) {xs ys : Array Value} :
    ∀ (fs : List Field) (i : Nat) (ks : List TD) (a b : List V) (r : Bool), flatFields P fs i = some ks → eqCells ks a b = some r →
      LRel (VR ν) a (xs.toList.drop i) → LRel (VR ν) b (ys.toList.drop i) → (Op.eqFields (n + 1) xs ys fs).run P w = .ok r w := by
  intro fs
  induction fs with
  | nil =>
    intro i ks a b r hk h ha hb
    simp only [flatFields, Option.some.injEq] at hk
    subst hk
    cases a with
    | nil => cases b with
      | nil => cases h; rfl
      | cons _ _ => cases h
    | cons _ _ => cases h
  | cons f fs ih =>
    intro i ks a b r hk h ha hb
    unfold flatFields at hk
    cases hg : (Nat.beq f.offset i && f.name != "_") with
    | false => rw [hg] at hk; cases hk
    | true =>
      rw [hg] at hk
      simp only [cond_true, Bool.and_eq_true] at hk hg
      have ho : f.offset = i := Nat.eq_of_beq_eq_true hg.1
      have hn : f.name ≠ "_" := by simpa using hg.2
      cases hs : scalarT P f.type with
      | none => rw [hs] at hk; cases hk
      | some d =>
        rw [hs] at hk
        simp only [Option.bind_some] at hk
        cases hf : flatFields P fs (i + 1) with
        | none => rw [hf] at hk; cases hk
        | some ks' =>
          rw [hf] at hk
          cases hk
          cases a with
          | nil => cases h
          | cons x a =>
            cases b with
            | nil => cases h
            | cons y b =>
              unfold eqCells at h
              cases he : eqScalar d x y with
              | none => rw [he] at h; cases h
              | some r1 =>
                rw [he] at h
                simp only [Option.bind_some] at h
                cases he2 : eqCells ks' a b with
                | none => rw [he2] at h; cases h
                | some r2 =>
                  rw [he2] at h
                  cases h
                  have gx : ∃ vx l, xs.toList.drop i = vx :: l ∧ VR ν x vx ∧ LRel (VR ν) a l := by
                    cases hd : xs.toList.drop i with
                    | nil => rw [hd] at ha; exact ha.elim
                    | cons vx l => rw [hd] at ha; exact ⟨vx, l, rfl, ha.1, ha.2⟩
                  have gy : ∃ vy l, ys.toList.drop i = vy :: l ∧ VR ν y vy ∧ LRel (VR ν) b l := by
                    cases hd : ys.toList.drop i with
                    | nil => rw [hd] at hb; exact hb.elim
                    | cons vy l => rw [hd] at hb; exact ⟨vy, l, rfl, hb.1, hb.2⟩
                  obtain ⟨vx, lx, ex, hx, hax⟩ := gx
                  obtain ⟨vy, ly, ey, hy, hby⟩ := gy
                  have cx : xs[i]? = some vx := by rw [← Array.getElem?_toList, ← List.head?_drop, ex]; rfl
                  have cy : ys[i]? = some vy := by rw [← Array.getElem?_toList, ← List.head?_drop, ey]; rfl
                  have dx : xs.toList.drop (i + 1) = lx := by rw [← List.drop_drop (i := 1) (j := i), ex]; rfl
                  have dy : ys.toList.drop (i + 1) = ly := by rw [← List.drop_drop (i := 1) (j := i), ey]; rfl
                  unfold Op.eqFields
                  rw [if_pos hn, ho, rb (scalar_part hs cx), rb (scalar_part hs cy), rb (scalar_equal hs hx hy n he)]
                  cases r1 with
                  | false => rfl
                  | true =>
                    rw [if_neg (by simp)]
                    exact ih (i + 1) ks' a b r2 hf he2 (by rw [dx]; exact hax) (by rw [dy]; exact hby)
end equal
end Go.Abs
