/- Memory below is as it was: for library calls taken by what they come to; calls of closed arguments, each run once. -/
import Derived.Test.YtadhbmnpokmgcaaGreatDoorA35
import Derived.Test.YtadhbmnpokmgcaaGreatDoorA2
namespace Go.Abs
open Go Go.RowKit

theorem HR.above {K : CodeP} {B : Nat} {w0 w w' : World} {ν : Ren} {h : H} (hr : HR K B w0 ν h w) (hb : Below w.heap.size w w') : HR K B w0 ν h w' ∧ Ext ν h w ν h w' := by
  obtain ⟨h1, h2, h3, h4, h5⟩ := hb
  refine ⟨⟨hr.dom, fun b o l hb hl => (hr.obj b o l hb hl).mono (Ren.le_refl _) (h5 _ (hr.lt hb hl)), hr.sep, hr.new, hr.below.trans ⟨h1, h2, h3, h4, fun k hk => h5 k (by have := hr.size; omega)⟩, by have := hr.size; omega, hr.wf⟩,
    ⟨Ren.le_refl _, fun _ h _ => h, Nat.le_refl _, fun _ _ _ => .inl rfl, fun k hk _ => h5 k hk, h4, fun b l e1 e2 => (by rw [e1] at e2; cases e2), fun b o' _ hb => ⟨o', hb, rfl⟩⟩⟩

/-- One function is taken by what it comes to. -/
def PrimOne (K : CodeP) (B : Nat) (w0 : World) (P : Program) (g : FuncId) (p : List Y → H → Res) : Prop :=
  ∀ m ν h w ys (vs : Array Value) (Q : X × H → Prop), HR K B w0 ν h w → LRel (YR ν) ys vs.toList → (p ys h).all Q →
    ((callFunc g vs).run P w = .ok (.enter g vs) w ∧ CallsIn Fence.wide m P g vs w (RetEnd K B w0 ν h w Q)) ∨
    ∃ v w', (callFunc g vs).run P w = .ok (.value v) w' ∧ RetEnd K B w0 ν h w Q (.returned v) w'

theorem KOf_prim (c : Ctx) (p : FuncId → Option (List Y → H → T (X × H))) : KOf { c with prim := p } = KOf c := rfl

theorem CtxOk.prim {P : Program} {c : Ctx} (h : CtxOk P c) (p : FuncId → Option (List Y → H → T (X × H))) : CtxOk P { c with prim := p } := ⟨h.ti⟩
theorem FiOk.prim {P : Program} {c : Ctx} (h : FiOk P c) (p : FuncId → Option (List Y → H → T (X × H))) : FiOk P { c with prim := p } := h

theorem prim_split {f g : FuncId} {q p : List Y → H → Res} {rest : Option (List Y → H → Res)} (h : (bif Nat.beq f g then some q else rest) = some p) : (f = g ∧ q = p) ∨ rest = some p := by
  cases hb : Nat.beq f g with
  | true => rw [hb] at h; cases h; exact .inl ⟨Nat.eq_of_beq_eq_true hb, rfl⟩
  | false => rw [hb] at h; exact .inr h

section
variable {K : CodeP} {B : Nat} {w0 : World} {P : Program} {c : Ctx} {r : Rec}

theorem RecSound.one (hrec : RecSound K B w0 P c r) (g : FuncId) : PrimOne K B w0 P g (r.call g) := by
  intro m ν h w ys vs Q hr hv hx
  cases hp : c.prim g with
  | none => exact .inl (hrec.plain m ν h w g ys vs Q hr hv hx hp)
  | some p => exact hrec.prim ν h w g ys vs Q p hr hv hx hp m

/-! ### Values without addresses -/
def plainV : V → Bool
  | .bool _ => true
  | .int _ _ => true
  | .str _ => true
  | .nilp => true
  | .nils => true
  | .nilm => true
  | .nilf => true
  | _ => false
def plainY : Y → Bool
  | .v x => plainV x
  | .agg cs => cs.all plainV
def plainX : X → Bool
  | .y y => plainY y
  | .tup ys => ys.all plainY

theorem LRel.all {α β : Type} {R S : α → β → Prop} {p : α → Bool} (hp : ∀ a b, p a = true → R a b → S a b) : ∀ {l : List α} {m : List β}, l.all p = true → LRel R l m → LRel S l m
  | [], [], _, _ => trivial
  | a :: l, b :: m, h, hl => by
    simp only [List.all_cons, Bool.and_eq_true] at h
    exact ⟨hp a b h.1 hl.1, LRel.all hp h.2 hl.2⟩
  | [], _ :: _, _, hl => hl.elim
  | _ :: _, [], _, hl => hl.elim

theorem plainV_R {ν ν' : Ren} (x : V) (v : Value) (h : plainV x = true) (hv : VR ν x v) : VR ν' x v := by
  cases x <;> first | exact hv | cases h
theorem plainY_R {ν ν' : Ren} (y : Y) (v : Value) (h : plainY y = true) (hv : YR ν y v) : YR ν' y v := by
  cases y with
  | v x => exact plainV_R x v h hv
  | agg cs => obtain ⟨c, e, hl⟩ := hv; exact ⟨c, e, LRel.all plainV_R h hl⟩
theorem plainX_R {ν ν' : Ren} (x : X) (v : Value) (h : plainX x = true) (hv : XR ν x v) : XR ν' x v := by
  cases x with
  | y y => exact plainY_R y v h hv
  | tup ys => obtain ⟨vs, e, hl⟩ := hv; exact ⟨vs, e, LRel.all plainY_R h hl⟩

theorem sameV_eq {a b : V} (h : sameV a b = true) : a = b ∧ plainV b = true := by
  unfold sameV at h
  split at h <;> first | exact ⟨rfl, rfl⟩ | skip
  · rename_i k a l b
    rw [Bool.and_eq_true] at h
    have h1 : k = l := of_decide_eq_true h.1
    have h2 := h.2
    rw [intEq_eq] at h2
    have h2 : a = b := of_decide_eq_true h2
    subst h1; subst h2
    exact ⟨rfl, rfl⟩
  · rename_i a b
    rw [bytesEq_eq] at h
    have h : a = b := by simpa using h
    subst h
    exact ⟨rfl, rfl⟩
  · cases h
theorem sameVs_eq : ∀ {l m : List V}, sameVs l m = true → l = m ∧ m.all plainV = true
  | [], [], _ => ⟨rfl, rfl⟩
  | a :: l, b :: m, h => by
    have h : (sameV a b && sameVs l m) = true := h
    rw [Bool.and_eq_true] at h
    obtain ⟨e1, p1⟩ := sameV_eq h.1
    obtain ⟨e2, p2⟩ := sameVs_eq h.2
    exact ⟨by rw [e1, e2], by rw [List.all_cons, p1, p2]; rfl⟩
  | [], _ :: _, h => by cases h
  | _ :: _, [], h => by cases h
theorem sameY_eq {a b : Y} (h : sameY a b = true) : a = b ∧ plainY b = true := by
  cases a <;> cases b
  · obtain ⟨e, p⟩ := sameV_eq h; exact ⟨by rw [e], p⟩
  · cases h
  · cases h
  · obtain ⟨e, p⟩ := sameVs_eq h; exact ⟨by rw [e], p⟩
theorem sameYs_eq : ∀ {l m : List Y}, sameYs l m = true → l = m ∧ m.all plainY = true
  | [], [], _ => ⟨rfl, rfl⟩
  | a :: l, b :: m, h => by
    have h : (sameY a b && sameYs l m) = true := h
    rw [Bool.and_eq_true] at h
    obtain ⟨e1, p1⟩ := sameY_eq h.1
    obtain ⟨e2, p2⟩ := sameYs_eq h.2
    exact ⟨by rw [e1, e2], by rw [List.all_cons, p1, p2]; rfl⟩
  | [], _ :: _, h => by cases h
  | _ :: _, [], h => by cases h

theorem findMemo_some : ∀ {tbl : List (List Y × X)} {ys : List Y} {x : X}, findMemo tbl ys = some x → (ys, x) ∈ tbl ∧ ys.all plainY = true
  | e :: l, ys, x, h => by
    unfold findMemo at h
    cases hs : sameYs e.1 ys with
    | true =>
      rw [hs] at h
      cases h
      obtain ⟨e1, p⟩ := sameYs_eq hs
      exact ⟨by rw [← e1]; exact List.mem_cons_self, p⟩
    | false =>
      rw [hs] at h
      obtain ⟨h1, h2⟩ := findMemo_some (tbl := l) h
      exact ⟨List.mem_cons_of_mem _ h1, h2⟩

def MemoOk (call : List Y → H → Res) (tbl : List (List Y × X)) : Prop := ∀ e ∈ tbl, plainX e.2 = true ∧ closedRet (call e.1 emptyH) e.2 = true

theorem HR.empty (K : CodeP) (w : World) : HR K w.heap.size w (fun _ => none) emptyH w where
  dom := fun _ _ h => by cases h
  obj := fun _ _ _ h _ => by cases h
  sep := fun _ _ _ _ _ _ _ h => by cases h
  new := fun _ _ _ h => by cases h
  below := Below.refl _ _
  size := Nat.le_refl _
  wf := fun _ _ h => by cases h

theorem memo_ok {g : FuncId} {tbl : List (List Y × X)} (hrec : ∀ B w0, RecSound K B w0 P c r) (ht : MemoOk (r.call g) tbl) (B : Nat) (w0 : World) : PrimOne K B w0 P g (memoP tbl (r.call g)) := by
  intro m ν h w ys vs Q hr hv hx
  unfold memoP at hx
  cases hf : findMemo tbl ys with
  | none => rw [hf] at hx; exact (hrec B w0).one g m ν h w ys vs Q hr hv hx
  | some x =>
    rw [hf] at hx
    have hx : Q (x, h) := hx
    obtain ⟨hmem, hpl⟩ := findMemo_some hf
    obtain ⟨hpx, hcl⟩ := ht _ hmem
    have hrun : (r.call g ys emptyH).all (fun p => p.1 = x) := by
      unfold closedRet at hcl
      split at hcl
      · rename_i p hp
        simp only at hp
        rw [hp]
        show p.1 = x
        exact of_decide_eq_true hcl
      · cases hcl
    have fin : ∀ e w', RetEnd K w.heap.size w (fun _ => none) emptyH w (fun p => p.1 = x) e w' → RetEnd K B w0 ν h w Q e w' := by
      intro e w' hR
      cases e with
      | returned v =>
        obtain ⟨x', h', ν', e1, hxr, hr', _⟩ := hR
        have e1 : x' = x := e1
        subst e1
        obtain ⟨k1, k2⟩ := hr.above hr'.below
        exact ⟨x', h, ν, hx, plainX_R _ _ hpx hxr, k1, k2⟩
      | _ => exact hR.elim
    rcases (hrec w.heap.size w).one g m (fun _ => none) emptyH w ys vs _ (HR.empty K w) (LRel.all plainY_R hpl hv) hrun with ⟨h1, h2⟩ | ⟨v, w', h1, h2⟩
    · exact .inl ⟨h1, h2.mono fin⟩
    · exact .inr ⟨v, w', h1, fin _ _ h2⟩
end
end Go.Abs
