/- The theorem on operations that need no memory. -/
import Derived.Test.YtadhbmnpokmgcaaGreatDoorA11
import Derived.Laws.Tables
namespace Go.Abs
open Go Go.RowKit

section calm
variable {P : Program} {c : Ctx} (hc : CtxOk P c) {ν : Ren} {w : World}

/-- What is shown of an operation that leaves the world as it is. -/
def Gives (P : Program) (ν : Ren) (w : World) (Q : X → Prop) (s : Sem Next) : Prop := ∃ x v, Q x ∧ s.run P w = .ok (.value v) w ∧ XR ν x v

theorem Gives.of {Q : X → Prop} {x : X} {s : Sem Value} {v : Value} (hQ : Q x) (hs : s.run P w = .ok v w) (hr : XR ν x v) : Gives P ν w Q (do pure (.value (← s))) :=
  ⟨x, v, hQ, vrun hs, hr⟩

theorem array_map_toList (ps : Array Operand) (f : Operand → Value) : (ps.map f).toList = ps.toList.map f := by simp

include hc in
theorem build_run {t : TypeId} {ps : Array (Nat × Operand)} {env : Env} {a : Act} {i : TI} (ht : c.ti.get t = some i) {l : List (Nat × Y)} (hl : evParts env ps.toList = some l)
    {cs : List V} (hf : fillAll c i.d i.zero l = some cs) (hbl : buildable c i.d = true) (he : EvR ν env a (ps.toList.map (·.2))) :
    ∃ v, (Instr.build t (ps.map fun (i, x) => (i, a.eval x))).run P w = .ok v w ∧ YR ν (.agg cs) v := by
  obtain ⟨d, inf, z, ti⟩ := tiok hc ht
  have hl' := evParts_R _ _ hl he
  have hz := ti.zeroR ν
  have hps : (ps.map fun (x : Nat × Operand) => (x.1, a.eval x.2)).toList = ps.toList.map fun p => (p.1, a.eval p.2) := by simp
  unfold Instr.build
  rw [rb (ti.run_zero w), rb (ti.run_und w)]
  cases hd : i.d with
  | struct fl =>
    obtain ⟨fs, rfl, rfl, hall⟩ := ti.desc_struct hd
    rw [hd] at hf
    simp only
    have hpl : ∀ (l : List Field), (∀ f ∈ l, ∃ inf, P.info? f.type = some inf ∧ 1 ≤ inf.size) →
        (l.mapM fun f => do pure (f.offset, ← sizeOf f.type) : Sem (List (Nat × Nat))).run P w = .ok (l.map fun f => (f.offset, P.cellsOf f.type)) w := by
      intro l
      induction l with
      | nil => intro _; rfl
      | cons f l ih =>
        intro hl
        obtain ⟨inf', hi, _⟩ := hl f (by simp)
        rw [List.mapM_cons]
        have h1 : (do pure (f.offset, ← sizeOf f.type) : Sem (Nat × Nat)).run P w = .ok (f.offset, P.cellsOf f.type) w := by
          rw [rb (run_sizeOf w hi)]; rfl
        rw [rb h1, rb (ih fun g hg => hl g (by simp [hg]))]; rfl
    have hpl' : (fs.mapM fun f => do pure (f.offset, ← sizeOf f.type) : Sem (Array (Nat × Nat))).run P w = .ok (fs.toList.map fun f => (f.offset, P.cellsOf f.type)).toArray w := by
      rw [Array.mapM_eq_mapM_toList]
      rw [Sem.run_map, hpl fs.toList hall]; rfl
    rw [rb hpl']
    obtain ⟨arr, h1, h2, _⟩ := fill_run (c := c) (d := .struct (fs.toList.map fun f => (f.offset, f.type))) (fun i => (fs.toList.map fun f => (f.offset, P.cellsOf f.type)).toArray[i]?) (by
      intro i p hp
      simp only [placeOf] at hp
      rw [List.getElem?_map] at hp
      cases hfi : fs.toList[i]? with
      | none => rw [hfi] at hp; cases hp
      | some f =>
        rw [hfi] at hp
        simp only [Option.map_some, Option.bind_some, Option.map_eq_some_iff] at hp
        obtain ⟨tf, htf, rfl⟩ := hp
        obtain ⟨d', inf', z', ti'⟩ := tiok hc htf
        show (fs.toList.map fun f => (f.offset, P.cellsOf f.type)).toArray[i]? = _
        rw [List.getElem?_toArray, List.getElem?_map, hfi]
        simp only [Option.map_some, Option.some.injEq, Prod.mk.injEq, true_and]
        rw [ti'.eq]
        simp [Program.cellsOf, ti'.info]) l _ i.zero z.cells cs hf hl' hz
    have e : (ps.map fun (i, x) => (i, a.eval x)).toList = ps.toList.map fun p => (p.1, a.eval p.2) := hps
    rw [e, h1]
    exact ⟨.agg arr, rfl, arr, rfl, h2⟩
  | array n e =>
    have e' := ti.desc_array hd
    subst e'
    rw [hd] at hf
    simp only
    cases hte : c.ti.get e with
    | none => rw [hd] at hbl; simp [buildable, hte] at hbl
    | some ei =>
      obtain ⟨d', inf', z', ti'⟩ := tiok hc hte
      rw [rb (ti'.run_size w)]
      obtain ⟨arr, h1, h2, _⟩ := fill_run (c := c) (d := .array n e) (fun i => some (i * ei.size, ei.size)) (by
        intro i p hp
        simp only [placeOf, hte, Option.map_some] at hp
        exact hp) l _ i.zero z.cells cs hf hl' hz
      have e2 : (ps.map fun (i, x) => (i, a.eval x)).toList = ps.toList.map fun p => (p.1, a.eval p.2) := hps
      rw [e2, h1]
      exact ⟨.agg arr, rfl, arr, rfl, h2⟩
  | _ => rw [hd] at hbl; cases hbl

theorem minMaxF_run {bi : Builtin} {k : IntKind} (lt : Int → Int → Bool) (f2 : Value → Value → Sem Value)
    (h2 : ∀ k x y w, (f2 (.int k x) (.int k y)).run P w = .ok (.int k (bif lt y x then y else x)) w) :
    ∀ (l : List Y) (vs : List Value) (x : Int) (r : V), minMaxF lt k x l = some r → LRel (YR ν) l vs → ∃ v, (vs.foldlM f2 (.int k x)).run P w = .ok v w ∧ VR ν r v
  | [], vs, x, r, h, hl => by
    cases vs with
    | nil => cases h; exact ⟨_, rfl, rfl⟩
    | cons _ _ => exact hl.elim
  | y :: l, vs, x, r, h, hl => by
    cases vs with
    | nil => exact hl.elim
    | cons v vs =>
      unfold minMaxF at h
      split at h
      · rename_i e; cases e
      · rename_i k' b rest e
        cases e
        by_cases hk : k = k'
        · subst hk
          simp only [IntKind.beqV, decide_true, cond_true] at h
          have hv : v = .int k b := hl.1
          subst hv
          obtain ⟨u, h1, h3⟩ := minMaxF_run (bi := bi) lt f2 h2 _ vs _ r h hl.2
          exact ⟨u, by rw [List.foldlM_cons, rb (h2 k x b w)]; exact h1, h3⟩
        · simp [IntKind.beqV, hk] at h
      · cases h

theorem minMax_run (lt : Int → Int → Bool) (f2 : Value → Value → Sem Value)
    (h2 : ∀ k x y w, (f2 (.int k x) (.int k y)).run P w = .ok (.int k (bif lt y x then y else x)) w) {l : List Y} {vs : List Value} {r : V} (h : minMax lt l = some r) (hl : LRel (YR ν) l vs) :
    ∃ v0 rest v, vs = v0 :: rest ∧ (rest.foldlM f2 v0).run P w = .ok v w ∧ VR ν r v := by
  unfold minMax at h
  split at h
  · rename_i k a rest
    cases vs with
    | nil => exact hl.elim
    | cons v vs =>
      have hv : v = .int k a := hl.1
      subst hv
      obtain ⟨u, h1, h3⟩ := minMaxF_run (bi := .min) lt f2 h2 rest vs a r h hl.2
      exact ⟨_, vs, u, rfl, h1, h3⟩
  · cases h

theorem exec_builtin (ρ : Operand → Value) (dst : Option Tmp) (b : Builtin) (xs : List Operand) (ats : Array TypeId) (ty : TypeId) (pos : String) (after : Array Edge) (guard : Option (Nat × Bool)) :
    ∃ cs, execOp ρ ⟨dst, .call ⟨.builtin b, ⟨xs⟩, ats⟩, ty, pos, after, guard⟩ = builtin b ats ty cs ⟨xs.map ρ⟩ := by
  refine ⟨(Array.mk xs).map fun | .const _ => true | _ => false, ?_⟩
  have e : (Array.mk xs).map ρ = ⟨xs.map ρ⟩ := by simp
  show (do let d ← (pure { target := .builtin b ats ty _, args := (Array.mk xs).map ρ } : Sem Deferred); invoke d.target d.args) = _
  rw [e]
  rfl

include hc in
theorem calm_sound {env : Env} {a : Act} {o : Oper} {Q : X → Prop} (he : EvR ν env a o.op.operands.toList) (h : (calmOp c env o.op).all Q) :
    Gives P ν w Q (execOp a.eval o) := by
  obtain ⟨dst, op, type, pos, after, guard⟩ := o
  simp only at he h
  cases op with
  | move x => exact ⟨_, _, h, rfl, he x (by simp [Op.operands])⟩
  | assign x => exact ⟨_, _, h, rfl, he x (by simp [Op.operands])⟩
  | pick p x y =>
    obtain ⟨pv, hp, h⟩ := (X.kv_all _ _ _).1 h
    have hpr := (he p (by simp [Op.operands])).v hp
    cases pv with
    | bool b =>
      cases b with
      | true =>
        refine ⟨_, _, h, ?_, he x (by simp [Op.operands])⟩
        show (do pure (.value (if ← asBool (a.eval p) then a.eval x else a.eval y)) : Sem Next).run P w = _
        rw [show a.eval p = .bool true from hpr]; rfl
      | false =>
        refine ⟨_, _, h, ?_, he y (by simp [Op.operands])⟩
        show (do pure (.value (if ← asBool (a.eval p) then a.eval x else a.eval y)) : Sem Next).run P w = _
        rw [show a.eval p = .bool false from hpr]; rfl
    | _ => exact h.elim
  | build t ps =>
    obtain ⟨i, ht, h⟩ := okO_some h
    obtain ⟨l, hl, h⟩ := okO_some h
    obtain ⟨cs, hcs, h⟩ := okO_some h
    obtain ⟨hg, h⟩ := (guardT_all _ _).1 h
    simp only [Bool.and_eq_true] at hg
    obtain ⟨v, h1, h2⟩ := build_run (w := w) hc ht hl hcs hg.2 (fun x hx => he x (by simpa [Op.operands] using hx))
    exact .of h h1 h2
  | nilCheck x =>
    obtain ⟨v, hx, h⟩ := (X.kv_all _ _ _).1 h
    have hr := (he x (by simp [Op.operands])).v hx
    cases v with
    | ptr b o =>
      obtain ⟨l, hl, e⟩ := hr
      refine ⟨_, .pointer (some ⟨l.blk, l.base + o, none⟩), h, ?_, ⟨l, hl, rfl⟩⟩
      unfold execOp
      simp only [e]
      rfl
    | func f p q =>
      obtain ⟨F, C, e, h1, h2⟩ := hr
      refine ⟨_, .func (.func f) F C, h, ?_, ⟨F, C, rfl, h1, h2⟩⟩
      unfold execOp
      simp only [e]
      rfl
    | _ => exact h.elim
  | binOp op t x y u =>
    simp only [calmOp] at h
    split at h
    · rename_i p q hp hq
      obtain ⟨r, hr, h⟩ := okO_some h
      obtain ⟨v, h1, h2⟩ := binOp_run (w := w) hc hr ((he x (by simp [Op.operands])).yy hp) ((he y (by simp [Op.operands])).yy hq) x y
      exact .of h h1 h2
    · exact h.elim
  | unOp op t x =>
    obtain ⟨v, hx, h⟩ := (X.kv_all _ _ _).1 h
    have hr := (he x (by simp [Op.operands])).v hx
    cases op with
    | not =>
      cases v with
      | bool b => exact .of (v := .bool !b) h (by rw [show a.eval x = .bool b from hr]; rfl) rfl
      | _ => exact h.elim
    | neg =>
      cases v with
      | int k n =>
        refine .of (v := .int k (k.wrap (0 - n))) h (by rw [show a.eval x = .int k n from hr]; rfl) ?_
        show Value.int k _ = Value.int k _
        rw [wrapV_eq]
      | _ => exact h.elim
    | _ => cases v <;> exact h.elim
  | convert s d x =>
    obtain ⟨v, hx, h⟩ := (X.kv_all _ _ _).1 h
    obtain ⟨r, hr0, h⟩ := okO_some h
    have hr := (he x (by simp [Op.operands])).v hx
    unfold convA at hr0
    split at hr0
    · rename_i si di k n hs hd
      obtain ⟨d1, _, _, t1⟩ := tiok hc hs
      obtain ⟨d2, _, _, t2⟩ := tiok hc hd
      split at hr0
      · rename_i k2 hk
        cases hr0
        have e := t2.desc_int hk
        subst e
        refine .of (v := .int k2 (k2.wrap n)) h ?_ ?_
        · rw [show a.eval x = .int k n from hr]
          unfold convert
          rw [rb (t1.run_und w), rb (t2.run_und w)]
          rfl
        · show Value.int k2 _ = Value.int k2 _
          rw [wrapV_eq]
      · cases hr0
    · rename_i si di sx hs hd
      obtain ⟨d1, _, _, t1⟩ := tiok hc hs
      obtain ⟨d2, _, _, t2⟩ := tiok hc hd
      split at hr0
      · rename_i hk
        cases hr0
        have e := t2.desc_str hk
        subst e
        refine .of (v := .string ⟨⟨sx⟩⟩) h ?_ rfl
        rw [show a.eval x = .string ⟨⟨sx⟩⟩ from hr]
        unfold convert
        rw [rb (t1.run_und w), rb (t2.run_und w)]
        rfl
      · cases hr0
    · cases hr0
  | makeFunc f first cap =>
    cases f with
    | func f =>
      obtain ⟨p, hp, h⟩ := okO_some h
      obtain ⟨q, hq, h⟩ := okO_some h
      have h1 := evPtrs_R _ _ hp (fun x hx => he x (by simp [Op.operands] at hx ⊢; exact .inl hx))
      have h2 := evPtrs_R _ _ hq (fun x hx => he x (by simp [Op.operands] at hx ⊢; exact .inr hx))
      refine .of (v := .func (.func f) (first.map a.eval) (cap.map a.eval)) h rfl ⟨_, _, rfl, ?_, ?_⟩
      · rw [array_map_toList]; exact h1
      · rw [array_map_toList]; exact h2
    | _ => exact h.elim
  | slice t x lo hi mx =>
    obtain ⟨v, hx, h⟩ := (X.kv_all _ _ _).1 h
    rw [T.all_bind] at h
    have hr := (he x (by simp [Op.operands])).v hx
    obtain ⟨r, u, hQ, h1, h2⟩ := sliceOp_run (w := w) hc (vlo := lo.map a.eval) (vhi := hi.map a.eval) (vmx := mx.map a.eval)
      (fun y hy => by
        cases lo with
        | none => cases hy
        | some l => cases hy; exact ⟨_, rfl, he l (by simp [Op.operands])⟩)
      (fun y hy => by
        cases hi with
        | none => cases hy
        | some l => cases hy; exact ⟨_, rfl, he l (by simp [Op.operands])⟩)
      (fun y hy => by
        cases mx with
        | none => cases hy
        | some l => cases hy; exact ⟨_, rfl, he l (by simp [Op.operands])⟩)
      (fun e => by cases lo <;> simp at e ⊢) (fun e => by cases hi <;> simp at e ⊢) (fun e => by cases mx <;> simp at e ⊢) hr h
    exact .of hQ h1 h2
  | fieldAddr s x f =>
    obtain ⟨v, hx, h⟩ := (X.kv_all _ _ _).1 h
    have hr := (he x (by simp [Op.operands])).v hx
    cases v with
    | ptr b o =>
      obtain ⟨p, hp, h⟩ := okO_some h
      obtain ⟨fs, fl, inf, hu, hf, rfl, hi, h1⟩ := fieldOff_run hc hp
      obtain ⟨l, hl, e⟩ := hr
      refine .of (v := .pointer (some ⟨l.blk, l.base + (o + fl.offset), none⟩)) h ?_ ⟨l, hl, rfl⟩
      unfold Instr.fieldAt
      rw [rb (run_underlying hu w)]
      simp only [hf]
      rw [e, rb (s := Instr.sureAddr (.pointer (some ⟨l.blk, l.base + o, none⟩))) (a := ⟨l.blk, l.base + o, none⟩) (w1 := w) rfl]
      have hp : (fieldPlace ⟨l.blk, l.base + o, none⟩ fl).run P w = .ok ⟨l.blk, l.base + (o + fl.offset), none⟩ w := by
        unfold fieldPlace
        rw [rb (run_sizeOf w hi), if_neg (by simp [Program.cellsOf, hi]; omega), addr_add, Nat.add_assoc]
        rfl
      rw [rb hp]; rfl
    | _ => exact h.elim
  | field s x f =>
    obtain ⟨y, hx, h⟩ := (X.k_all _ _ _).1 h
    have hr := (he x (by simp [Op.operands])).yy hx
    cases y with
    | agg cs =>
      obtain ⟨p, hp, h⟩ := okO_some h
      obtain ⟨fs, fl, inf, hu, hf, rfl, hi, h1⟩ := fieldOff_run hc hp
      obtain ⟨y, hy, h⟩ := okO_some h
      obtain ⟨xs, e, hxs⟩ := hr
      obtain ⟨v, h2, h3⟩ := partOf_run (w := w) hc hy hxs
      refine .of h ?_ h3
      unfold Instr.field
      rw [rb (run_underlying hu w)]
      simp only [hf]
      rw [e, rb (s := asAgg (.agg xs)) (a := xs) (w1 := w) rfl]
      exact h2
    | _ => exact h.elim
  | indexAddr t x i =>
    obtain ⟨iv, hi, h⟩ := (X.kv_all _ _ _).1 h
    obtain ⟨k, n, rfl, h⟩ := (V.knat_all _ _ _).1 h
    obtain ⟨v, hx, h⟩ := (X.kv_all _ _ _).1 h
    obtain ⟨ti, ht, h⟩ := okO_some h
    have hri : a.eval i = .int k (Int.ofNat n) := (he i (by simp [Op.operands])).v hi
    have hr := (he x (by simp [Op.operands])).v hx
    obtain ⟨d, _, _, tk⟩ := tiok hc ht
    cases hd : ti.d with
    | array m e =>
      rw [hd] at h
      cases v with
      | ptr b o =>
        obtain ⟨ei, hei, h⟩ := okO_some h
        obtain ⟨hg, h⟩ := (guardT_all _ _).1 h
        have hlt := (blt_iff _ _).1 hg
        obtain ⟨d2, _, _, tk2⟩ := tiok hc hei
        have e' := tk.desc_array hd
        subst e'
        obtain ⟨l, hl, e2⟩ := hr
        refine .of (v := .pointer (some ⟨l.blk, l.base + (o + n * ei.size), none⟩)) h ?_ ⟨l, hl, rfl⟩
        unfold Instr.indexAt
        rw [hri, rb (s := asIntOf (.int k (.ofNat n))) (a := (k, Int.ofNat n)) (w1 := w) rfl]
        simp only
        rw [rb (tk.run_und w), e2]
        simp only [Sem.run_bind, Sem.run_pure, Result.andThen_ok, Instr.sureAddr]
        rw [tk.run_und w]
        simp only [Result.andThen_ok]
        rw [if_pos (by constructor <;> simp <;> omega)]
        simp only [Sem.run_bind, tk2.run_size w, Result.andThen_ok, Sem.run_pure, Int.ofNat_eq_natCast, Int.toNat_natCast, addr_add, Nat.add_assoc]
      | _ => exact h.elim
    | slice e =>
      rw [hd] at h
      cases v with
      | slice b o len cap opn =>
        obtain ⟨ei, hei, h⟩ := okO_some h
        obtain ⟨hg, h⟩ := (guardT_all _ _).1 h
        have hlt := (blt_iff _ _).1 hg
        obtain ⟨d2, _, _, tk2⟩ := tiok hc hei
        have e' := tk.desc_slice hd
        subst e'
        obtain ⟨l, aa, cap', hl, e2, hlen, haa, hcap⟩ := hr
        obtain rfl := haa.resolve_left (by omega)
        refine .of (v := .pointer (some ⟨l.blk, l.base + (o + n * ei.size), none⟩)) h ?_ ⟨l, hl, rfl⟩
        unfold Instr.indexAt
        rw [hri, rb (s := asIntOf (.int k (.ofNat n))) (a := (k, Int.ofNat n)) (w1 := w) rfl]
        simp only
        rw [rb (tk.run_und w), e2]
        simp only [Sem.run_bind, Sem.run_pure, Result.andThen_ok]
        rw [tk.run_und w]
        simp only [Result.andThen_ok]
        rw [if_pos (by constructor <;> simp <;> omega)]
        simp only [Sem.run_bind, tk2.run_size w, Result.andThen_ok, Sem.run_pure, Int.ofNat_eq_natCast, Int.toNat_natCast, addr_add, Nat.add_assoc]
      | _ => exact h.elim
    | _ => rw [hd] at h; exact h.elim
  | index t x i =>
    obtain ⟨iv, hi, h⟩ := (X.kv_all _ _ _).1 h
    obtain ⟨k, n, rfl, h⟩ := (V.knat_all _ _ _).1 h
    obtain ⟨y, hx, h⟩ := (X.k_all _ _ _).1 h
    obtain ⟨ti, ht, h⟩ := okO_some h
    have hri : a.eval i = .int k (Int.ofNat n) := (he i (by simp [Op.operands])).v hi
    have hr := (he x (by simp [Op.operands])).yy hx
    obtain ⟨d, _, _, tk⟩ := tiok hc ht
    cases hd : ti.d with
    | array m e =>
      rw [hd] at h
      cases y with
      | agg cs =>
        obtain ⟨ei, hei, h⟩ := okO_some h
        obtain ⟨hg, h⟩ := (guardT_all _ _).1 h
        have hlt := (blt_iff _ _).1 hg
        obtain ⟨y, hy, h⟩ := okO_some h
        obtain ⟨d2, _, _, tk2⟩ := tiok hc hei
        have e' := tk.desc_array hd
        subst e'
        obtain ⟨xs, e2, hxs⟩ := hr
        obtain ⟨v, h2, h3⟩ := partOf_run (w := w) hc hy hxs
        refine .of h ?_ h3
        unfold Instr.index
        rw [hri, rb (s := asIntOf (.int k (.ofNat n))) (a := (k, Int.ofNat n)) (w1 := w) rfl]
        simp only
        rw [rb (tk.run_und w), e2]
        simp only
        rw [if_pos (by constructor <;> simp <;> omega), rb (tk2.run_size w)]
        exact h2
      | _ => exact h.elim
    | str =>
      rw [hd] at h
      have e' := tk.desc_str hd
      subst e'
      cases y with
      | v v =>
        cases v with
        | str s =>
          obtain ⟨b, hb, h⟩ := okO_some h
          have hr : a.eval x = .string ⟨⟨s⟩⟩ := hr
          refine .of (v := .int .u8 b.toNat) h ?_ rfl
          unfold Instr.index
          rw [hri, rb (s := asIntOf (.int k (.ofNat n))) (a := (k, Int.ofNat n)) (w1 := w) rfl]
          simp only
          rw [rb (tk.run_und w), hr]
          simp only
          have hlt : n < s.length := (List.getElem?_eq_some_iff.1 hb).1
          have hbb : s[n] = b := (List.getElem?_eq_some_iff.1 hb).2
          have : (if 0 ≤ (Int.ofNat n) then (⟨⟨s⟩⟩ : ByteArray)[(Int.ofNat n).toNat]? else none) = some b := by
            rw [if_pos (by simp)]
            show (⟨⟨s⟩⟩ : ByteArray)[n]? = some b
            rw [ByteArray.getElem?_lt' _ _ (show n < (⟨⟨s⟩⟩ : ByteArray).size from hlt)]
            exact congrArg some hbb
          rw [this]
          rfl
        | _ => exact h.elim
      | _ => exact h.elim
    | _ => rw [hd] at h; cases y <;> exact h.elim
  | extract x i =>
    simp only [calmOp] at h
    split at h
    · rename_i ys hx
      obtain ⟨y, hy, h⟩ := okO_some h
      have hr := he x (by simp [Op.operands])
      rw [hx] at hr
      obtain ⟨vs, e, hvs⟩ := hr
      obtain ⟨v, hv, hyv⟩ := hvs.get hy
      rw [Array.getElem?_toList] at hv
      refine .of h ?_ hyv
      rw [e]
      simp only [Instr.extract, hv]
      rfl
    · exact h.elim
  | call c' =>
    obtain ⟨callee, args, ats⟩ := c'
    obtain ⟨args⟩ := args
    obtain ⟨ats⟩ := ats
    simp only [calmOp] at h
    split at h
    · rename_i x t ts
      obtain ⟨ti, ht, h⟩ := okO_some h
      obtain ⟨d, _, _, tk⟩ := tiok hc ht
      have hx := he x (by simp [Op.operands, Call.operands])
      obtain ⟨csx, hex⟩ := exec_builtin a.eval dst .len [x] ⟨t :: ts⟩ type pos after guard
      rw [hex]
      cases hd : ti.d with
      | array n e =>
        rw [hd] at h
        have e' := tk.desc_array hd
        subst e'
        refine .of (v := .int .i64 n) h ?_ rfl
        unfold Builtin.len_
        simp only [List.getElem?_toArray, List.map_cons, List.getElem?_cons_zero]
        rw [rb (tk.run_und w)]; rfl
      | slice e =>
        rw [hd] at h
        simp only at h
        obtain ⟨v, hv, h⟩ := (X.kv_all _ _ _).1 h
        obtain ⟨n, hn, h⟩ := okO_some h
        have e' := tk.desc_slice hd
        subst e'
        have hr := hx.v hv
        obtain ⟨ba, cap', e2⟩ : ∃ ba cap', a.eval x = .slice ba n cap' := by
          cases v with
          | nils => cases hn; exact ⟨none, 0, hr⟩
          | slice b o len cap opn => cases hn; obtain ⟨l, aa, cap', _, e2, _⟩ := hr; exact ⟨_, _, e2⟩
          | _ => cases hn
        refine .of (v := .int .i64 n) h ?_ rfl
        unfold Builtin.len_
        simp only [List.getElem?_toArray, List.map_cons, List.getElem?_cons_zero]
        rw [rb (tk.run_und w), e2]; rfl
      | str =>
        rw [hd] at h
        simp only at h
        obtain ⟨v, hv, h⟩ := (X.kv_all _ _ _).1 h
        have e' := tk.desc_str hd
        subst e'
        have hr := hx.v hv
        cases v with
        | str s =>
          have e2 : a.eval x = .string ⟨⟨s⟩⟩ := hr
          refine .of (v := .int .i64 s.length) h ?_ rfl
          unfold Builtin.len_
          simp only [List.getElem?_toArray, List.map_cons, List.getElem?_cons_zero]
          rw [rb (tk.run_und w), e2]; rfl
        | _ => exact h.elim
      | _ => rw [hd] at h; exact h.elim
    · rename_i x t ts
      obtain ⟨hg, h⟩ := (guardT_all _ _).1 h
      obtain ⟨v, hv, h⟩ := (X.kv_all _ _ _).1 h
      have hr := (he x (by simp [Op.operands, Call.operands])).v hv
      have hsl : ∃ ti e, c.ti.get t = some ti ∧ ti.d = .slice e := by
        unfold isSliceT at hg
        split at hg
        · rename_i ti ht
          split at hg
          · rename_i e hd; exact ⟨ti, e, ht, hd⟩
          · cases hg
        · cases hg
      obtain ⟨ti, e, ht, hd⟩ := hsl
      obtain ⟨d, _, _, tk⟩ := tiok hc ht
      have e' := tk.desc_slice hd
      subst e'
      obtain ⟨csx, hex⟩ := exec_builtin a.eval dst .cap [x] ⟨t :: ts⟩ type pos after guard
      rw [hex]
      split at h
      · have e2 : a.eval x = .slice none 0 0 := hr
        refine .of (v := .int .i64 0) h ?_ rfl
        unfold Builtin.cap_
        simp only [List.getElem?_toArray, List.map_cons, List.getElem?_cons_zero]
        rw [rb (tk.run_und w), e2]; rfl
      · rename_i b o len cap
        obtain ⟨l, aa, cap', _, e2, _, _, hcap⟩ := hr
        rw [if_pos rfl] at hcap
        subst hcap
        refine .of (v := .int .i64 cap') h ?_ rfl
        unfold Builtin.cap_
        simp only [List.getElem?_toArray, List.map_cons, List.getElem?_cons_zero]
        rw [rb (tk.run_und w), e2]; rfl
      · rename_i b o len cap opn
        obtain ⟨l, aa, cap', _, e2, _, _, hcap⟩ := hr
        rw [if_neg (by omega)] at hcap
        refine .of (v := .int .i64 cap') h ?_ ⟨cap', rfl, hcap.1⟩
        unfold Builtin.cap_
        simp only [List.getElem?_toArray, List.map_cons, List.getElem?_cons_zero]
        rw [rb (tk.run_und w), e2]; rfl
      · exact h.elim
    · obtain ⟨ys, hys, h⟩ := okO_some h
      obtain ⟨r, hr, h⟩ := okO_some h
      have hl := evArgs_R _ _ hys (fun x hx => he x (by simp [Op.operands, Call.operands]; exact hx))
      obtain ⟨v0, rest, v, ev, h1, h2⟩ := minMax_run (P := P) (w := w) intLt Builtin.min2 (fun k x y w => by
        simp only [Builtin.min2, Sem.run_pure, Result.ok.injEq, Value.int.injEq, true_and, and_true]
        rw [intLt_eq]
        by_cases hlt : y < x <;> simp [hlt]) hr hl
      obtain ⟨csx, hex⟩ := exec_builtin a.eval dst .min args ⟨ats⟩ type pos after guard
      rw [hex]
      refine .of (v := v) (s := Builtin.min_ ⟨ats⟩ type ⟨args.map a.eval⟩) h ?_ h2
      unfold Builtin.min_
      simp only [ev]
      exact h1
    · obtain ⟨ys, hys, h⟩ := okO_some h
      obtain ⟨r, hr, h⟩ := okO_some h
      have hl := evArgs_R _ _ hys (fun x hx => he x (by simp [Op.operands, Call.operands]; exact hx))
      obtain ⟨v0, rest, v, ev, h1, h2⟩ := minMax_run (P := P) (w := w) (fun a b => intLt b a) Builtin.max2 (fun k x y w => by
        simp only [Builtin.max2, Sem.run_pure, Result.ok.injEq, Value.int.injEq, true_and, and_true]
        rw [intLt_eq]
        by_cases hlt : x < y <;> simp [hlt]) hr hl
      obtain ⟨csx, hex⟩ := exec_builtin a.eval dst .max args ⟨ats⟩ type pos after guard
      rw [hex]
      refine .of (v := v) (s := Builtin.max_ ⟨ats⟩ type ⟨args.map a.eval⟩) h ?_ h2
      unfold Builtin.max_
      simp only [ev]
      exact h1
    · exact h.elim
  | _ => exact h.elim
end calm
end Go.Abs
