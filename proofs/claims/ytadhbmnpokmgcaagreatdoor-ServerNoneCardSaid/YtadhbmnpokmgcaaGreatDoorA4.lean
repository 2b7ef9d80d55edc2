/- How the interpreter's values and memory stand to the model's: relations, and what is kept from state to state. -/
import Derived.Test.YtadhbmnpokmgcaaGreatDoorA3
namespace Go.Abs
open Go Go.RowKit

/-! ### Lists -/
def LRel {α β : Type} (R : α → β → Prop) : List α → List β → Prop
  | [], [] => True
  | a :: l, b :: m => R a b ∧ LRel R l m
  | _, _ => False

section LRel
variable {α β : Type} {R R' : α → β → Prop}
theorem LRel.length : ∀ {l : List α} {m : List β}, LRel R l m → l.length = m.length
  | [], [], _ => rfl
  | _ :: _, _ :: _, h => by simp [LRel.length h.2]
  | [], _ :: _, h => h.elim
  | _ :: _, [], h => h.elim
theorem LRel.mono (h : ∀ a b, R a b → R' a b) : ∀ {l : List α} {m : List β}, LRel R l m → LRel R' l m
  | [], [], _ => trivial
  | _ :: _, _ :: _, hl => ⟨h _ _ hl.1, LRel.mono h hl.2⟩
  | [], _ :: _, hl => hl.elim
  | _ :: _, [], hl => hl.elim
theorem LRel.get : ∀ {l : List α} {m : List β} {i : Nat} {a : α}, LRel R l m → l[i]? = some a → ∃ b, m[i]? = some b ∧ R a b
  | [], _, _, _, _, h => by simp at h
  | x :: l, [], _, _, h, _ => h.elim
  | x :: l, y :: m, 0, a, h, ha => by simp at ha; subst ha; exact ⟨y, rfl, h.1⟩
  | x :: l, y :: m, i + 1, a, h, ha => by simpa using LRel.get h.2 (by simpa using ha)
theorem LRel.get' : ∀ {l : List α} {m : List β} {i : Nat} {b : β}, LRel R l m → m[i]? = some b → ∃ a, l[i]? = some a ∧ R a b
  | _, [], _, _, _, h => by simp at h
  | [], y :: m, _, _, h, _ => h.elim
  | x :: l, y :: m, 0, a, h, ha => by simp at ha; subst ha; exact ⟨x, rfl, h.1⟩
  | x :: l, y :: m, i + 1, a, h, ha => by simpa using LRel.get' h.2 (by simpa using ha)
theorem LRel.of_get : ∀ {l : List α} {m : List β}, l.length = m.length → (∀ (i : Nat) (a : α) (b : β), l[i]? = some a → m[i]? = some b → R a b) → LRel R l m
  | [], [], _, _ => trivial
  | a :: l, b :: m, hl, h => ⟨h 0 a b rfl rfl, LRel.of_get (by simpa using hl) fun i x y hx hy => h (i + 1) x y (by simpa using hx) (by simpa using hy)⟩
  | [], _ :: _, hl, _ => by simp at hl
  | _ :: _, [], hl, _ => by simp at hl
theorem LRel.append : ∀ {l l' : List α} {m m' : List β}, LRel R l m → LRel R l' m' → LRel R (l ++ l') (m ++ m')
  | [], _, [], _, _, h => h
  | _ :: _, _, _ :: _, _, h, h' => ⟨h.1, LRel.append h.2 h'⟩
  | [], _, _ :: _, _, h, _ => h.elim
  | _ :: _, _, [], _, h, _ => h.elim
theorem LRel.take : ∀ {l : List α} {m : List β} (n : Nat), LRel R l m → LRel R (l.take n) (m.take n)
  | [], [], _, _ => by simp [LRel]
  | _ :: _, _ :: _, 0, _ => by simp [LRel]
  | _ :: _, _ :: _, n + 1, h => ⟨h.1, LRel.take n h.2⟩
  | [], _ :: _, _, h => h.elim
  | _ :: _, [], _, h => h.elim
theorem LRel.drop : ∀ {l : List α} {m : List β} (n : Nat), LRel R l m → LRel R (l.drop n) (m.drop n)
  | [], [], _, _ => by simp [LRel]
  | _ :: _, _ :: _, 0, h => h
  | _ :: _, _ :: _, n + 1, h => LRel.drop n h.2
  | [], _ :: _, _, h => h.elim
  | _ :: _, [], _, h => h.elim
theorem LRel.map_right {γ : Type} {f : α → γ} {S : α → γ → Prop} (hs : ∀ a, S a (f a)) : ∀ l : List α, LRel S l (l.map f)
  | [] => trivial
  | a :: l => ⟨hs a, LRel.map_right hs l⟩
end LRel

/-! ### Where a block lies in the model's memory -/
/-- The model's block, where the interpreter's cells begin in it, and how many of its cells are the block's. -/
structure Loc where
  blk : Nat
  base : Nat
  tot : Nat

abbrev Ren := Nat → Option Loc
def Ren.le (ν ν' : Ren) : Prop := ∀ b l, ν b = some l → ν' b = some l
theorem Ren.le_refl (ν : Ren) : ν.le ν := fun _ _ h => h
theorem Ren.le_trans {a b c : Ren} (h : Ren.le a b) (k : Ren.le b c) : Ren.le a c := fun x l hx => k x l (h x l hx)

def PtrR (ν : Ren) (p : Nat × Nat) (v : Value) : Prop := ∃ l, ν p.1 = some l ∧ v = .pointer (some ⟨l.blk, l.base + p.2, none⟩)

/-- One cell's value. -/
def VR (ν : Ren) : V → Value → Prop
  | .bool b, v => v = .bool b
  | .int k n, v => v = .int k n
  | .str s, v => v = .string ⟨⟨s⟩⟩
  | .nilp, v => v = .pointer none
  | .ptr b o, v => PtrR ν (b, o) v
  | .nils, v => v = .slice none 0 0
  | .slice b o len cap opn, v => ∃ l a cap', ν b = some l ∧ v = .slice (some a) len cap' ∧ len ≤ cap' ∧ (cap' = 0 ∨ a = ⟨l.blk, l.base + o, none⟩) ∧
      (if opn = 0 then cap' = cap else cap ≤ cap' ∧ o + cap' * opn = l.tot)
  | .nilm, v => v = .map none
  | .map b, v => ∃ l, ν b = some l ∧ v = .map (some l.blk)
  | .nilf, v => v = .nilFunc
  | .func f first cap, v => ∃ F C, v = .func (.func f) F C ∧ LRel (PtrR ν) first F.toList ∧ LRel (PtrR ν) cap C.toList
  | .yield b, v => ∃ l, ν b = some l ∧ v = .func (.yield l.blk) #[] #[]
  | .capGe k, v => ∃ n : Nat, v = .int .i64 n ∧ k ≤ n
  | .bad, v => v.oneCell' = true

def YR (ν : Ren) : Y → Value → Prop
  | .v x, v => VR ν x v
  | .agg cs, v => ∃ c, v = .agg c ∧ LRel (VR ν) cs c.toList

def XR (ν : Ren) : X → Value → Prop
  | .y y, v => YR ν y v
  | .tup ys, v => ∃ vs, v = .tuple vs ∧ LRel (YR ν) ys vs.toList

section mono
variable {ν ν' : Ren} (hle : ν.le ν')
include hle
theorem PtrR.mono {p : Nat × Nat} {v : Value} (h : PtrR ν p v) : PtrR ν' p v := by
  obtain ⟨l, hl, e⟩ := h; exact ⟨l, hle _ _ hl, e⟩
theorem VR.mono {x : V} {v : Value} (h : VR ν x v) : VR ν' x v := by
  cases x <;> simp only [VR] at h ⊢ <;> first
    | exact h
    | exact PtrR.mono hle h
    | (obtain ⟨l, a, c, h1, h2⟩ := h; exact ⟨l, a, c, hle _ _ h1, h2⟩)
    | (obtain ⟨l, h1, h2⟩ := h; exact ⟨l, hle _ _ h1, h2⟩)
    | (obtain ⟨F, C, h1, h2, h3⟩ := h; exact ⟨F, C, h1, h2.mono fun _ _ => PtrR.mono hle, h3.mono fun _ _ => PtrR.mono hle⟩)
theorem YR.mono {y : Y} {v : Value} (h : YR ν y v) : YR ν' y v := by
  cases y with
  | v x => exact VR.mono hle h
  | agg cs => obtain ⟨c, e, h⟩ := h; exact ⟨c, e, h.mono fun _ _ => VR.mono hle⟩
theorem XR.mono {x : X} {v : Value} (h : XR ν x v) : XR ν' x v := by
  cases x with
  | y y => exact YR.mono hle h
  | tup ys => obtain ⟨c, e, h⟩ := h; exact ⟨c, e, h.mono fun _ _ => YR.mono hle⟩
end mono

theorem VR.oneCell {ν : Ren} {x : V} {v : Value} (h : VR ν x v) : v.oneCell' = true := by
  cases x <;> simp only [VR] at h
  case bad => exact h
  case slice => obtain ⟨l, a, c, _, e, _⟩ := h; subst e; rfl
  case func => obtain ⟨F, C, e, _⟩ := h; subst e; rfl
  case ptr => obtain ⟨l, _, e⟩ := h; subst e; rfl
  case map => obtain ⟨l, _, e⟩ := h; subst e; rfl
  case yield => obtain ⟨l, _, e⟩ := h; subst e; rfl
  case capGe => obtain ⟨n, e, _⟩ := h; subst e; rfl
  all_goals (subst h; rfl)

theorem cells_of_oneCell {v : Value} (h : v.oneCell' = true) : v.cells = #[v] := by
  cases v <;> first | rfl | cases h

theorem YR.cells {ν : Ren} {y : Y} {v : Value} (h : YR ν y v) : LRel (VR ν) y.cells v.cells.toList := by
  cases y with
  | v x => rw [cells_of_oneCell (VR.oneCell h)]; exact ⟨h, trivial⟩
  | agg cs => obtain ⟨c, rfl, h⟩ := h; exact h

theorem YR.cells_one {ν : Ren} {y : Y} {v : Value} (h : YR ν y v) : ∀ u ∈ v.cells.toList, u.oneCell' = true := by
  intro u hu
  obtain ⟨i, hi⟩ := List.mem_iff_getElem?.1 hu
  obtain ⟨a, _, hr⟩ := h.cells.get' hi
  exact hr.oneCell

/-! ### Memory -/
def EntR (ν : Ren) (e : Y × Y × Nat) (e' : MapEntry) : Prop := YR ν e.1 e'.key ∧ YR ν e.2.1 e'.val ∧ e'.born = e.2.2

/-- Is code within what the interpreter's soundness speaks of? (Filled in where code is looked at.) -/
abbrev CodeP := FuncId → Code → Prop

def EnvR (ν : Ren) (t : Tr X) (n : Nat) (tmps : Array Value) : Prop :=
  n = tmps.size ∧ ∀ i, XR ν ((t.get i).getD undefX) (tmps.getD i undef)

structure LoopRel (K : CodeP) (ν : Ren) (r : LoopR) (r' : Loop) : Prop where
  state : r'.state = r.state
  pending : r'.pending = r.pending
  env : EnvR ν r.env r.n r'.tmps
  params : r'.params.toList = r.params
  assign : r'.assign = r.assign
  body : r'.body = r.body
  defers : ∃ l, ν r.defers = some l ∧ r'.defers = l.blk
  ka : K r.fn r.assign
  kb : K r.fn r.body
  jump : ∀ j, r.pending = some j → ∃ e, jumpC j = some e

def OR (K : CodeP) (ν : Ren) (l : Loc) (w : World) : O → Prop
  | .cells cs ro => ∃ c t fr, w.heap[l.blk]? = some (.cells c t fr) ∧ (∀ i x, cs[i]? = some x → ∃ v, c[l.base + i]? = some v ∧ VR ν x v) ∧
      (ro = false → cs.length ≤ l.tot ∧ l.base + l.tot ≤ c.size ∧ ∀ i, i < l.tot → ¬ (fr.1 ≤ l.base + i ∧ l.base + i < fr.2))
  | .map es clock => ∃ es', w.heap[l.blk]? = some (.map es' clock) ∧ LRel (EntR ν) es es'.toList
  | .siter s pos => l.base = 0 ∧ w.heap[l.blk]? = some (.stringIter ⟨⟨s⟩⟩ pos)
  | .miter m since seen stepped => l.base = 0 ∧ ∃ m', (match m with | none => m' = none | some b => ∃ lm, ν b = some lm ∧ m' = some lm.blk) ∧
      w.heap[l.blk]? = some (.mapIter m' since seen.toArray stepped)
  | .loop r => ∃ r', w.heap[l.blk]? = some (.loop r') ∧ LoopRel K ν r r'
  | .defer => w.heap[l.blk]? = some (.deferred (some []))

def writable : O → Bool
  | .cells _ true => false
  | _ => true

structure HR (K : CodeP) (B : Nat) (w0 : World) (ν : Ren) (h : H) (w : World) : Prop where
  dom : ∀ b l, ν b = some l → b < h.next
  obj : ∀ b o l, h.get b = some o → ν b = some l → OR K ν l w o
  sep : ∀ b b' o o' l l', b ≠ b' → h.get b = some o → h.get b' = some o' → ν b = some l → ν b' = some l' → writable o = true → l.blk ≠ l'.blk
  new : ∀ b o l, h.get b = some o → ν b = some l → writable o = true → B ≤ l.blk
  below : Below B w0 w
  size : B ≤ w.heap.size
  wf : ∀ b o, h.get b = some o → b < h.next

/-- Does a live block that may be written lie there? -/
def Owned (h : H) (ν : Ren) (k : Nat) : Prop := ∃ b o l, h.get b = some o ∧ ν b = some l ∧ writable o = true ∧ l.blk = k

/-- What is kept from one state to a later one. -/
structure Ext (ν : Ren) (h : H) (w : World) (ν' : Ren) (h' : H) (w' : World) : Prop where
  le : ν.le ν'
  newdom : ∀ b, ν b = none → b < h.next → ν' b = none
  next : h.next ≤ h'.next
  phantom : ∀ b, b < h.next → ν b = none → h'.get b = h.get b ∨ h'.get b = none
  frame : ∀ k, k < w.heap.size → ¬ Owned h ν k → w'.heap[k]? = w.heap[k]?
  size : w.heap.size ≤ w'.heap.size
  fresh : ∀ b l, ν b = none → ν' b = some l → w.heap.size ≤ l.blk ∨ Owned h ν l.blk
  live : ∀ b o', b < h.next → h'.get b = some o' → ∃ o, h.get b = some o ∧ writable o = writable o'

section ext
variable {ν ν1 ν2 : Ren} {h h1 h2 : H} {w w1 w2 : World}
theorem Ext.refl (ν : Ren) (h : H) (w : World) : Ext ν h w ν h w :=
  ⟨Ren.le_refl _, fun _ h _ => h, Nat.le_refl _, fun _ _ _ => .inl rfl, fun _ _ _ => rfl, Nat.le_refl _, fun b l h1 h2 => (by rw [h1] at h2; cases h2), fun b o' _ hb => ⟨o', hb, rfl⟩⟩

theorem Ext.owned (e : Ext ν h w ν1 h1 w1) (hdom : ∀ b l, ν b = some l → b < h.next) {k : Nat} (hk : k < w.heap.size) (ho : Owned h1 ν1 k) : Owned h ν k := by
  obtain ⟨b, o, l, hb, hl, hw, rfl⟩ := ho
  cases hν : ν b with
  | none =>
    rcases e.fresh b l hν hl with h | h
    · omega
    · exact h
  | some l0 =>
    have : some l0 = some l := by rw [← e.le b l0 hν]; exact hl
    cases this
    obtain ⟨o0, h0, hw0⟩ := e.live b o (hdom b _ hν) hb
    exact ⟨b, o0, _, h0, hν, by rw [hw0]; exact hw, rfl⟩

theorem Ext.trans (hdom : ∀ b l, ν b = some l → b < h.next) (e : Ext ν h w ν1 h1 w1) (f : Ext ν1 h1 w1 ν2 h2 w2) : Ext ν h w ν2 h2 w2 where
  le := Ren.le_trans e.le f.le
  newdom := fun b hb hn => f.newdom b (e.newdom b hb hn) (Nat.lt_of_lt_of_le hn e.next)
  next := Nat.le_trans e.next f.next
  phantom := fun b hn hb => by
    rcases f.phantom b (Nat.lt_of_lt_of_le hn e.next) (e.newdom b hb hn) with e1 | e1
    · rcases e.phantom b hn hb with e2 | e2
      · exact .inl (e1.trans e2)
      · exact .inr (e1.trans e2)
    · exact .inr e1
  frame := fun k hk hn => (f.frame k (Nat.lt_of_lt_of_le hk e.size) fun ho => hn (e.owned hdom hk ho)).trans (e.frame k hk hn)
  size := Nat.le_trans e.size f.size
  fresh := fun b l hb hl => by
    cases hν : ν1 b with
    | none =>
      rcases f.fresh b l hν hl with h | h
      · exact .inl (Nat.le_trans e.size h)
      · by_cases hk : l.blk < w.heap.size
        · exact .inr (e.owned hdom hk h)
        · exact .inl (by omega)
    | some l0 =>
      have : some l0 = some l := by rw [← f.le b l0 hν]; exact hl
      cases this
      exact e.fresh b _ hb hν
  live := fun b o' hb ho => by
    obtain ⟨o1, h1, e1⟩ := f.live b o' (Nat.lt_of_lt_of_le hb e.next) ho
    obtain ⟨o0, h0, e0⟩ := e.live b o1 hb h1
    exact ⟨o0, h0, e0.trans e1⟩
end ext

theorem LoopRel.mono {K : CodeP} {ν ν' : Ren} (hle : ν.le ν') {r : LoopR} {r' : Loop} (h : LoopRel K ν r r') : LoopRel K ν' r r' :=
  ⟨h.state, h.pending, ⟨h.env.1, fun i => (h.env.2 i).mono hle⟩, h.params, h.assign, h.body, (let ⟨l, a, b⟩ := h.defers; ⟨l, hle _ _ a, b⟩), h.ka, h.kb, h.jump⟩

/-- A block's content is told on, if its place in the model's memory is as it was. -/
theorem OR.mono {K : CodeP} {ν ν' : Ren} (hle : ν.le ν') {l : Loc} {w w' : World} (hw : w'.heap[l.blk]? = w.heap[l.blk]?) {o : O} (h : OR K ν l w o) : OR K ν' l w' o := by
  cases o with
  | cells cs ro =>
    obtain ⟨c, t, fr, h1, h2, h3⟩ := h
    exact ⟨c, t, fr, hw.trans h1, fun i x hx => (let ⟨v, a, b⟩ := h2 i x hx; ⟨v, a, b.mono hle⟩), h3⟩
  | map es clock =>
    obtain ⟨es', h1, h2⟩ := h
    exact ⟨es', hw.trans h1, h2.mono fun _ _ ⟨a, b, c⟩ => ⟨a.mono hle, b.mono hle, c⟩⟩
  | siter s pos => exact ⟨h.1, hw.trans h.2⟩
  | miter m since seen stepped =>
    obtain ⟨h0, m', h1, h2⟩ := h
    refine ⟨h0, m', ?_, hw.trans h2⟩
    cases m with
    | none => exact h1
    | some b => obtain ⟨lm, a, c⟩ := h1; exact ⟨lm, hle _ _ a, c⟩
  | loop r =>
    obtain ⟨r', h1, h2⟩ := h
    exact ⟨r', hw.trans h1, h2.mono hle⟩
  | defer => exact hw.trans h

theorem OR.lt {K : CodeP} {ν : Ren} {l : Loc} {w : World} {o : O} (h : OR K ν l w o) : l.blk < w.heap.size := by
  cases o with
  | cells cs ro => obtain ⟨c, t, fr, h1, _⟩ := h; exact (Array.getElem?_eq_some_iff.1 h1).1
  | map es clock => obtain ⟨es', h1, _⟩ := h; exact (Array.getElem?_eq_some_iff.1 h1).1
  | siter s pos => exact (Array.getElem?_eq_some_iff.1 h.2).1
  | miter m since seen stepped => obtain ⟨_, m', _, h1⟩ := h; exact (Array.getElem?_eq_some_iff.1 h1).1
  | loop r => obtain ⟨r', h1, _⟩ := h; exact (Array.getElem?_eq_some_iff.1 h1).1
  | defer => exact (Array.getElem?_eq_some_iff.1 (show w.heap[l.blk]? = some _ from h)).1
end Go.Abs
