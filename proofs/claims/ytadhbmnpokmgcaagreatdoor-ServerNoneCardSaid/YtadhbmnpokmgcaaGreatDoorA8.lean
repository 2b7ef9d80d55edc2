/- Binary operations. -/
import Derived.Test.YtadhbmnpokmgcaaGreatDoorA7
import Derived.ChangeKeysEq
import Derived.Laws.Concat
namespace Go.Abs
open Go Go.RowKit

section
variable {P : Program} {w : World}

theorem items_equal {ν : Ren} (n : Nat) {e : TypeId} {d : TD} (hs : scalarT P e = some d) {xs ys : Array Value} :
    ∀ (m i : Nat) (a b : List V) (r : Bool), eqCells (List.replicate m d) a b = some r →
      LRel (VR ν) a (xs.toList.drop i) → LRel (VR ν) b (ys.toList.drop i) → (Op.eqItems (n + 1) e 1 xs ys (List.range' i m)).run P w = .ok r w := by
  intro m
  induction m with
  | zero =>
    intro i a b r h ha hb
    cases a with
    | nil => cases b with
      | nil => cases h; rfl
      | cons _ _ => cases h
    | cons _ _ => cases h
  | succ m ih =>
    intro i a b r h ha hb
    rw [List.replicate_succ] at h
    cases a with
    | nil => cases h
    | cons x a =>
      cases b with
      | nil => cases h
      | cons y b =>
        unfold eqCells at h
        cases he : eqScalar d x y with
        | none => rw [he] at h; cases h
        | some r1 =>
          rw [he] at h
          simp only [Option.bind_some] at h
          cases he2 : eqCells (List.replicate m d) a b with
          | none => rw [he2] at h; cases h
          | some r2 =>
            rw [he2] at h
            cases h
            have gx : ∃ vx l, xs.toList.drop i = vx :: l ∧ VR ν x vx ∧ LRel (VR ν) a l := by
              cases hd : xs.toList.drop i with
              | nil => rw [hd] at ha; exact ha.elim
              | cons vx l => rw [hd] at ha; exact ⟨vx, l, rfl, ha.1, ha.2⟩
            have gy : ∃ vy l, ys.toList.drop i = vy :: l ∧ VR ν y vy ∧ LRel (VR ν) b l := by
              cases hd : ys.toList.drop i with
              | nil => rw [hd] at hb; exact hb.elim
              | cons vy l => rw [hd] at hb; exact ⟨vy, l, rfl, hb.1, hb.2⟩
            obtain ⟨vx, lx, ex, hx, hax⟩ := gx
            obtain ⟨vy, ly, ey, hy, hby⟩ := gy
            have cx : xs[i]? = some vx := by rw [← Array.getElem?_toList, ← List.head?_drop, ex]; rfl
            have cy : ys[i]? = some vy := by rw [← Array.getElem?_toList, ← List.head?_drop, ey]; rfl
            have dx : xs.toList.drop (i + 1) = lx := by rw [← List.drop_drop (i := 1) (j := i), ex]; rfl
            have dy : ys.toList.drop (i + 1) = ly := by rw [← List.drop_drop (i := 1) (j := i), ey]; rfl
            rw [List.range'_succ]
            unfold Op.eqItems
            rw [Nat.mul_one, rb (scalar_part hs cx), rb (scalar_part hs cy), rb (scalar_equal hs hx hy n he)]
            cases r1 with
            | false => rfl
            | true => exact ih (i + 1) a b r2 he2 (by rw [dx]; exact hax) (by rw [dy]; exact hby)

theorem cells_equal {ν : Ren} {t : TypeId} {ks : List TD} (hk : cmpT P t = some ks) {a b : List V} {xs ys : Array Value} {r : Bool} (h : eqCells ks a b = some r)
    (ha : LRel (VR ν) a xs.toList) (hb : LRel (VR ν) b ys.toList) (n : Nat) :
    (Op.equalIn (n + 2) t (.agg xs) (.agg ys)).run P w = .ok r w ∧ P.eqGuardType P.depth t = false := by
  unfold cmpT at hk
  split at hk
  · rename_i fs hu
    cases hg : (P.eqGuardType P.depth t || P.stoodInHeld t) with
    | true => rw [hg] at hk; cases hk
    | false =>
      rw [hg] at hk
      simp only [cond_false, Bool.or_eq_false_iff] at hk hg
      refine ⟨?_, hg.1⟩
      have hf : P.fieldsOf t = fs := by simp [Program.fieldsOf, hu]
      rw [run_equalIn_struct w (n + 1) t xs ys (by rw [hf]; exact hu) hg.2, hf]
      exact fields_equal n fs.toList 0 ks a b r hk h (by simpa using ha) (by simpa using hb)
  · rename_i m e hu
    cases hg : (P.eqGuardType P.depth t || !Nat.beq (P.cellsOf e) 1) with
    | true => rw [hg] at hk; cases hk
    | false =>
      rw [hg] at hk
      simp only [cond_false, Bool.or_eq_false_iff] at hk hg
      refine ⟨?_, hg.1⟩
      have h1 : P.cellsOf e = 1 := Nat.eq_of_beq_eq_true (by simpa using hg.2)
      cases hs : scalarT P e with
      | none => rw [hs] at hk; cases hk
      | some d =>
        rw [hs] at hk
        cases hk
        have hi : ∃ i, P.info? e = some i := by
          cases hi : P.info? e with
          | some i => exact ⟨i, rfl⟩
          | none => simp [Program.cellsOf, hi] at h1
        obtain ⟨i, hi⟩ := hi
        rw [run_equalIn_array w (n + 1) xs ys hu hi, h1, List.range_eq_range']
        exact items_equal n hs m 0 a b r h (by simpa using ha) (by simpa using hb)
  · cases hk
end

section bin
variable {P : Program} {c : Ctx} (hc : CtxOk P c) {ν : Ren} {w : World}

theorem okO_some {α β : Type} {x : Option α} {f : α → T β} {Q : β → Prop} (h : (okO x f).all Q) : ∃ a, x = some a ∧ (f a).all Q := (okO_all x f Q).1 h

theorem TIok.desc_ptr {t : TypeId} {i : TI} {d : TypeDesc} {inf : TypeInfo} {z : Value} (h : TIok P t i d inf z) (e : i.d = .ptr) : ∃ el, d = .pointer el := by
  rw [h.eq] at e
  cases d with
  | struct fs => cases hb : structOk P fs <;> simp [tdOf, hb] at e
  | pointer el => exact ⟨el, rfl⟩
  | _ => simp [tdOf] at e
theorem TIok.desc_func {t : TypeId} {i : TI} {d : TypeDesc} {inf : TypeInfo} {z : Value} (h : TIok P t i d inf z) (e : i.d = .func) : ∃ a b v, d = .func a b v := by
  rw [h.eq] at e
  cases d with
  | struct fs => cases hb : structOk P fs <;> simp [tdOf, hb] at e
  | func a b v => exact ⟨a, b, v, rfl⟩
  | _ => simp [tdOf] at e
theorem TIok.desc_bool {t : TypeId} {i : TI} {d : TypeDesc} {inf : TypeInfo} {z : Value} (h : TIok P t i d inf z) (e : i.d = .bool) : d = .bool := by
  rw [h.eq] at e
  cases d with
  | struct fs => cases hb : structOk P fs <;> simp [tdOf, hb] at e
  | bool => rfl
  | _ => simp [tdOf] at e

theorem eqGuard_calm (op : BinOp) (t : TypeId) (ox oy : Operand) {vx vy : Value} (h1 : vx ≠ .nilIface) (h2 : ∀ cs, vx ≠ .agg cs) : (eqGuard op t ox oy vx vy).run P w = .ok () w := by
  cases vx <;> first
    | exact absurd rfl h1
    | exact absurd rfl (h2 _)
    | (cases op <;> simp [eqGuard])

include hc in
theorem eqY_run {t : TypeId} {x y : Y} {r : Bool} (h : eqY c t x y = some r) {vx vy : Value} (hx : YR ν x vx) (hy : YR ν y vy) (ox oy : Operand) (op : BinOp) :
    (eqGuard op t ox oy vx vy).run P w = .ok () w ∧ (Op.equal t vx vy).run P w = .ok r w ∧
      Go.binOp .eql t vx vy = (do pure (.bool (← Op.equal t vx vy))) ∧ Go.binOp .neq t vx vy = (do pure (.bool (!(← Op.equal t vx vy)))) := by
  unfold eqY at h
  cases ht : c.ti.get t with
  | none => rw [ht] at h; cases h
  | some i =>
    rw [ht] at h
    simp only at h
    obtain ⟨d, inf, z, ti⟩ := tiok hc ht
    cases x with
    | agg a =>
      cases y with
      | v b => cases h
      | agg b =>
        simp only at h
        obtain ⟨xs, rfl, hxs⟩ := hx
        obtain ⟨ys, rfl, hys⟩ := hy
        cases hk : i.cmp with
        | none => rw [hk] at h; cases h
        | some ks =>
          rw [hk] at h
          have hk' : cmpT P t = some ks := by rw [← hk, ti.eq]
          have := cells_equal (w := w) hk' h hxs hys 9998
          exact ⟨run_eqGuard_agg w op t ox oy xs ys this.2, this.1, rfl, rfl⟩
    | v a =>
      cases y with
      | agg b => cases h
      | v b =>
        simp only at h
        have hx : VR ν a vx := hx
        have hy : VR ν b vy := hy
        unfold eqV at h
        split at h
        · rename_i hd
          have e := ti.desc_bool hd
          split at h
          · cases hx; cases hy; cases h
            exact ⟨eqGuard_calm op t ox oy (by simp) (by simp), run_equalIn_bool' w 9999 t _ _ (by rw [ti.und, e]), rfl, rfl⟩
          · cases h
        · rename_i hd
          obtain ⟨el, e⟩ := ti.desc_ptr hd
          have key : ∀ (n : Nat) (p q : Option Addr), (p = none ∨ q = none) → (Op.equalIn (n + 1) t (.pointer p) (.pointer q)).run P w = .ok (p.isNone && q.isNone) w := by
            intro n p q hpq
            unfold Op.equalIn
            rw [rb (run_underlying (by rw [ti.und, e]) w)]
            cases p <;> cases q <;> simp at hpq ⊢
          split at h
          · cases hx; cases hy; cases h
            exact ⟨eqGuard_calm op t ox oy (by simp) (by simp), key 9999 none none (.inl rfl), rfl, rfl⟩
          · cases hx; obtain ⟨l, _, rfl⟩ := hy; cases h
            exact ⟨eqGuard_calm op t ox oy (by simp) (by simp), key 9999 none _ (.inl rfl), rfl, rfl⟩
          · cases hy; obtain ⟨l, _, rfl⟩ := hx; cases h
            exact ⟨eqGuard_calm op t ox oy (by simp) (by simp), key 9999 _ none (.inr rfl), rfl, rfl⟩
          · cases h
        · rename_i el hd
          have e := ti.desc_slice hd
          have key : ∀ (n : Nat) (p q : Option Addr) (a b a' b' : Nat), (p = none ∨ q = none) → (Op.equalIn (n + 1) t (.slice p a b) (.slice q a' b')).run P w = .ok (p.isNone && q.isNone) w := by
            intro n p q a b a' b' hpq
            unfold Op.equalIn
            rw [rb (run_underlying (by rw [ti.und, e]) w)]
            cases p <;> cases q <;> simp at hpq ⊢
          split at h
          · cases hx; cases hy; cases h
            exact ⟨eqGuard_calm op t ox oy (by simp) (by simp), key 9999 none none _ _ _ _ (.inl rfl), rfl, rfl⟩
          · cases hx; obtain ⟨l, aa, cc, _, rfl, _⟩ := hy; cases h
            exact ⟨eqGuard_calm op t ox oy (by simp) (by simp), key 9999 none _ _ _ _ _ (.inl rfl), rfl, rfl⟩
          · cases hy; obtain ⟨l, aa, cc, _, rfl, _⟩ := hx; cases h
            exact ⟨eqGuard_calm op t ox oy (by simp) (by simp), key 9999 _ none _ _ _ _ (.inr rfl), rfl, rfl⟩
          · cases h
        · rename_i k0 el hd
          have e := ti.desc_map hd
          have key : ∀ (n : Nat) (p q : Option Nat), (p = none ∨ q = none) → (Op.equalIn (n + 1) t (.map p) (.map q)).run P w = .ok (p.isNone && q.isNone) w := by
            intro n p q hpq
            unfold Op.equalIn
            rw [rb (run_underlying (by rw [ti.und, e]) w)]
            cases p <;> cases q <;> simp at hpq ⊢
          split at h
          · cases hx; cases hy; cases h
            exact ⟨eqGuard_calm op t ox oy (by simp) (by simp), key 9999 none none (.inl rfl), rfl, rfl⟩
          · cases hx; obtain ⟨l, _, rfl⟩ := hy; cases h
            exact ⟨eqGuard_calm op t ox oy (by simp) (by simp), key 9999 none _ (.inl rfl), rfl, rfl⟩
          · cases hy; obtain ⟨l, _, rfl⟩ := hx; cases h
            exact ⟨eqGuard_calm op t ox oy (by simp) (by simp), key 9999 _ none (.inr rfl), rfl, rfl⟩
          · cases h
        · rename_i hd
          obtain ⟨a0, b0, v0, e⟩ := ti.desc_func hd
          have k1 : ∀ (n : Nat), (Op.equalIn (n + 1) t .nilFunc .nilFunc).run P w = .ok true w := fun n => by
            unfold Op.equalIn
            rw [rb (run_underlying (by rw [ti.und, e]) w)]; rfl
          have k2 : ∀ (n : Nat) (f : Fn) (p q : Array Value), (Op.equalIn (n + 1) t .nilFunc (.func f p q)).run P w = .ok false w := fun n f p q => by
            unfold Op.equalIn
            rw [rb (run_underlying (by rw [ti.und, e]) w)]; rfl
          have k3 : ∀ (n : Nat) (f : Fn) (p q : Array Value), (Op.equalIn (n + 1) t (.func f p q) .nilFunc).run P w = .ok false w := fun n f p q => by
            unfold Op.equalIn
            rw [rb (run_underlying (by rw [ti.und, e]) w)]; rfl
          split at h
          · cases hx; cases hy; cases h
            exact ⟨eqGuard_calm op t ox oy (by simp) (by simp), k1 9999, rfl, rfl⟩
          · cases hx; obtain ⟨F, C, rfl, _⟩ := hy; cases h
            exact ⟨eqGuard_calm op t ox oy (by simp) (by simp), k2 9999 _ _ _, rfl, rfl⟩
          · cases hy; obtain ⟨F, C, rfl, _⟩ := hx; cases h
            exact ⟨eqGuard_calm op t ox oy (by simp) (by simp), k3 9999 _ _ _, rfl, rfl⟩
          · cases h
        · cases h

theorem intOp_run {op : BinOp} {k : IntKind} {a b : Int} {r : V} (h : intOp op k a b = some r) (t : TypeId) (hns : isShift op = false) :
    ∃ v, (Go.binOp op t (.int k a) (.int k b)).run P w = .ok v w ∧ VR ν r v := by
  cases op <;> simp only [isShift, reduceCtorEq] at hns <;> simp only [intOp, Option.some.injEq, reduceCtorEq] at h
  case add => subst h; exact ⟨.int k (k.wrap (a + b)), by simp [Go.binOp, Op.intArith], by rw [wrapV_eq]; rfl⟩
  case sub => subst h; exact ⟨.int k (k.wrap (a - b)), by simp [Go.binOp, Op.intArith], by rw [wrapV_eq]; rfl⟩
  case mul => subst h; exact ⟨.int k (k.wrap (a * b)), by simp [Go.binOp, Op.intArith], by rw [wrapV_eq]; rfl⟩
  case quo =>
    cases hb : intEq b 0 with
    | true => rw [hb] at h; cases h
    | false =>
      rw [hb] at h
      simp only [cond_false, Option.some.injEq] at h
      subst h
      have h0 : ¬ b = 0 := by rw [intEq_eq] at hb; simpa using hb
      exact ⟨.int k (k.wrap (a.tdiv b)), by simp [Go.binOp, Op.intDiv, h0], by rw [wrapV_eq]; rfl⟩
  case rem =>
    cases hb : intEq b 0 with
    | true => rw [hb] at h; cases h
    | false =>
      rw [hb] at h
      simp only [cond_false, Option.some.injEq] at h
      subst h
      have h0 : ¬ b = 0 := by rw [intEq_eq] at hb; simpa using hb
      exact ⟨.int k (a.tmod b), by simp [Go.binOp, Op.intDiv, h0], rfl⟩
  case and => subst h; exact ⟨_, by simp only [Go.binOp, ne_eq, not_true_eq_false, if_false, Op.intBits]; rfl, rfl⟩
  case or => subst h; exact ⟨_, by simp only [Go.binOp, ne_eq, not_true_eq_false, if_false, Op.intBits]; rfl, rfl⟩
  case xor => subst h; exact ⟨_, by simp only [Go.binOp, ne_eq, not_true_eq_false, if_false, Op.intBits]; rfl, rfl⟩
  case eql => subst h; exact ⟨.bool (a == b), by simp [Go.binOp, Op.intCmp], by rw [intEq_eq]; rfl⟩
  case neq => subst h; exact ⟨.bool (a != b), by simp [Go.binOp, Op.intCmp], by rw [intEq_eq]; rfl⟩
  case lss => subst h; exact ⟨.bool (decide (a < b)), by simp [Go.binOp, Op.intCmp], by rw [intLt_eq]; rfl⟩
  case leq => subst h; exact ⟨.bool (decide (a ≤ b)), by simp [Go.binOp, Op.intCmp], by rw [intLt_eq]; show _ = Value.bool _; congr 1; rw [Bool.eq_iff_iff]; simp⟩
  case gtr => subst h; exact ⟨.bool (decide (a > b)), by simp [Go.binOp, Op.intCmp], by rw [intLt_eq]; rfl⟩
  case geq => subst h; exact ⟨.bool (decide (a ≥ b)), by simp [Go.binOp, Op.intCmp], by rw [intLt_eq]; show _ = Value.bool _; congr 1; rw [Bool.eq_iff_iff]; simp⟩

theorem shiftOp_run {op : BinOp} {k k' : IntKind} {a b : Int} {r : V} (h : shiftOp op k a b = some r) (t : TypeId) :
    ∃ v, (Go.binOp op t (.int k a) (.int k' b)).run P w = .ok v w ∧ VR ν r v := by
  unfold shiftOp at h
  cases hb : intLt b 0 with
  | true => rw [hb] at h; cases h
  | false =>
    rw [hb] at h
    have h0 : ¬ b < 0 := by rw [intLt_eq] at hb; simpa using hb
    simp only [cond_false] at h
    cases op <;> simp only [Option.some.injEq, reduceCtorEq] at h
    · subst h
      exact ⟨.int k (k.wrap (a * 2 ^ (min b.toNat k.bits))), by simp [Go.binOp, Op.shift, h0], by rw [wrapV_eq]; rfl⟩
    · subst h
      exact ⟨.int k (a.fdiv (2 ^ (min b.toNat k.bits))), by simp [Go.binOp, Op.shift, h0], rfl⟩

theorem strOp_run {op : BinOp} {a b : List UInt8} {r : V} (h : strOp op a b = some r) (t : TypeId) :
    ∃ v, (Go.binOp op t (.string ⟨⟨a⟩⟩) (.string ⟨⟨b⟩⟩)).run P w = .ok v w ∧ VR ν r v := by
  have ea : (⟨⟨a⟩⟩ : ByteArray).toList = a := ByteArray.toList_mk a
  have eb : (⟨⟨b⟩⟩ : ByteArray).toList = b := ByteArray.toList_mk b
  cases op <;> simp only [strOp, Option.some.injEq, reduceCtorEq] at h
  case add =>
    cases hb : Nat.ble (a.length + b.length) 9223372036854775807 with
    | false => rw [hb] at h; cases h
    | true =>
      rw [hb] at h
      simp only [cond_true, Option.some.injEq] at h
      subst h
      have hle := Nat.le_of_ble_eq_true hb
      refine ⟨.string (⟨⟨a⟩⟩ ++ ⟨⟨b⟩⟩), ?_, ?_⟩
      · rw [binOp_string_add]
        exact run_string_add_sum w _ _ hle
      · show _ = Value.string _
        rw [ByteArray.mk_append_mk]
  case eql => subst h; exact ⟨.bool (a == b), by simp [Go.binOp, Op.stringOp, ea, eb], by rw [bytesEq_eq]; rfl⟩
  case neq => subst h; exact ⟨.bool (!(a == b)), by simp [Go.binOp, Op.stringOp, ea, eb], by rw [bytesEq_eq]; rfl⟩
  case lss => subst h; exact ⟨.bool (Op.bytesLess a b), by simp [Go.binOp, Op.stringOp, ea, eb], by rw [bytesLess_eq]; rfl⟩
  case leq => subst h; exact ⟨.bool (Op.bytesLess a b || a == b), by simp [Go.binOp, Op.stringOp, ea, eb], by rw [bytesLess_eq, bytesEq_eq]; rfl⟩
  case gtr => subst h; exact ⟨.bool (!(Op.bytesLess a b || a == b)), by simp [Go.binOp, Op.stringOp, ea, eb], by rw [bytesLess_eq, bytesEq_eq]; rfl⟩
  case geq => subst h; exact ⟨.bool (!Op.bytesLess a b), by simp [Go.binOp, Op.stringOp, ea, eb], by rw [bytesLess_eq]; rfl⟩

include hc in
theorem binOp_run {op : BinOp} {t : TypeId} {x y : Y} {r : V} (h : binOp c op t x y = some r) {vx vy : Value} (hx : YR ν x vx) (hy : YR ν y vy) (ox oy : Operand) :
    ∃ v, (do eqGuard op t ox oy vx vy; Go.binOp op t vx vy : Sem Value).run P w = .ok v w ∧ VR ν r v := by
  unfold binOp at h
  split at h
  · rename_i k a k' b
    cases hx; cases hy
    rw [rb (eqGuard_calm op t ox oy (by simp) (by simp))]
    cases hs : isShift op with
    | true => rw [hs] at h; exact shiftOp_run h t
    | false =>
      rw [hs] at h
      simp only [cond_false] at h
      by_cases hk : k = k'
      · subst hk
        simp only [IntKind.beqV, decide_true, cond_true] at h
        exact intOp_run h t hs
      · simp [IntKind.beqV, hk] at h
  · rename_i a b
    cases hx; cases hy
    rw [rb (eqGuard_calm op t ox oy (by simp) (by simp))]
    exact strOp_run h t
  · rename_i k a m
    obtain rfl : vx = .int k a := hx
    obtain ⟨n, rfl, hle⟩ : ∃ n : Nat, vy = .int .i64 n ∧ m ≤ n := hy
    rw [rb (eqGuard_calm op t ox oy (by simp) (by simp))]
    unfold gtrGe at h
    cases op <;> simp only [reduceCtorEq] at h
    by_cases hk : k = .i64
    · subst hk
      simp only [IntKind.beqV, decide_true, cond_true] at h
      cases hl : intLt (.ofNat m) a with
      | true => rw [hl] at h; cases h
      | false =>
        rw [hl] at h
        cases h
        refine intOp_run (op := .gtr) ?_ t rfl
        show some (V.bool (intLt (n : Int) a)) = some (.bool false)
        rw [intLt_eq] at hl ⊢
        have : ¬ ((m : Int) < a) := of_decide_eq_false hl
        rw [decide_eq_false (by omega)]
    · simp [IntKind.beqV, hk] at h
  · rename_i hni hns hng
    cases op <;> simp only [Option.map_eq_some_iff, reduceCtorEq] at h
    · obtain ⟨b, hb, rfl⟩ := h
      obtain ⟨h1, h2, h3, _⟩ := eqY_run (w := w) hc hb hx hy ox oy .eql
      exact ⟨.bool b, by rw [rb h1, h3, rb h2]; rfl, rfl⟩
    · obtain ⟨b, hb, rfl⟩ := h
      obtain ⟨h1, h2, _, h4⟩ := eqY_run (w := w) hc hb hx hy ox oy .neq
      exact ⟨.bool (!b), by rw [rb h1, h4, rb h2]; rfl, rfl⟩
end bin
end Go.Abs
