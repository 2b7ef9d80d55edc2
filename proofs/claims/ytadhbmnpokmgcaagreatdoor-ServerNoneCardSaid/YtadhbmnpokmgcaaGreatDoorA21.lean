/- Regions whose order is open: memory. -/
import Derived.Test.YtadhbmnpokmgcaaGreatDoorA20
namespace Go.Abs
open Go Go.RowKit

section
variable {K : CodeP} {B : Nat} {w0 w w' : World} {ν ν' : Ren} {h h' g g' : H}

/-- Less is told of memory. -/
theorem HR.sub (hr : HR K B w0 ν g w) (hs : ∀ b o, h.get b = some o → g.get b = some o) (hn : h.next = g.next) : HR K B w0 ν h w :=
  ⟨fun b l hb => by rw [hn]; exact hr.dom b l hb, fun b o l hb hl => hr.obj b o l (hs b o hb) hl, fun b b' o o' l l' hne hb hb' => hr.sep b b' o o' l l' hne (hs b o hb) (hs b' o' hb'),
    fun b o l hb => hr.new b o l (hs b o hb), hr.below, hr.size, fun b o hb => by rw [hn]; exact hr.wf b o (hs b o hb)⟩

theorem HR.congr (hr : HR K B w0 ν g w) (hs : ∀ b, h.get b = g.get b) (hn : h.next = g.next) : HR K B w0 ν h w :=
  hr.sub (fun b o hb => by rw [← hs b]; exact hb) hn

theorem HR.reserve (hr : HR K B w0 ν h w) (k : Nat) : HR K B w0 ν { h with next := h.next + k } w :=
  ⟨fun b l hb => Nat.lt_of_lt_of_le (hr.dom b l hb) (Nat.le_add_right _ _), hr.obj, hr.sep, hr.new, hr.below, hr.size, fun b o hb => Nat.lt_of_lt_of_le (hr.wf b o hb) (Nat.le_add_right _ _)⟩

/-- What is told of a name that stands for nothing. -/
theorem HR.phantom (hr : HR K B w0 ν h w) {b : Nat} (o : O) (hb : ν b = none) (hlt : b < h.next) : HR K B w0 ν (h.put b o) w := by
  have hne : ∀ x l, ν x = some l → b ≠ x := fun x l hx e => by subst e; rw [hb] at hx; cases hx
  have hget : ∀ x l, ν x = some l → (h.put b o).get x = h.get x := fun x l hx => by rw [H.get_put, if_neg (hne x l hx)]
  refine ⟨hr.dom, fun x y z hx hz => hr.obj x y z (by rw [← hget x z hz]; exact hx) hz, fun x x' y y' z z' hn hx hx' hz hz' => hr.sep x x' y y' z z' hn (by rw [← hget x z hz]; exact hx) (by rw [← hget x' z' hz']; exact hx') hz hz',
    fun x y z hx hz => hr.new x y z (by rw [← hget x z hz]; exact hx) hz, hr.below, hr.size, fun x y hx => ?_⟩
  rw [H.get_put] at hx
  split at hx
  · rename_i e; subst e; exact hlt
  · exact hr.wf x y hx

/-- A block is laid in the model's memory for a name that stood ready. -/
theorem HR.name (hr : HR K B w0 ν h w) {b : Nat} {o : O} {l : Loc} (hb : ν b = none) (hlt : b < h.next) (hl : l.blk = w.heap.size)
    (hold : ∀ k, k < w.heap.size → w'.heap[k]? = w.heap[k]?) (hsz : w.heap.size ≤ w'.heap.size) (hs : SameRest w w') (ho : OR K (ren ν b l) l w' o) :
    HR K B w0 (ren ν b l) (h.put b o) w' := by
  have hle := ren_le (l := l) hb
  have hB := hr.size
  refine ⟨fun x y hx => ?_, fun x y z hx hz => ?_, fun x x' y y' z z' hne hx hx' hz hz' hwr => ?_, fun x y z hx hz hwr => ?_, ?_, by omega, fun x y hx => ?_⟩
  · rw [H.next_put]
    unfold ren at hx
    split at hx
    · rename_i e; subst e; exact hlt
    · exact hr.dom x y hx
  · rw [H.get_put] at hx
    split at hx
    · rename_i e; subst e
      cases hx
      rw [ren_self] at hz; cases hz
      exact ho
    · rename_i e
      rw [ren_ne (fun e' => e e'.symm)] at hz
      exact (hr.obj x y z hx hz).mono hle (hold _ (hr.lt hx hz))
  · rw [H.get_put] at hx hx'
    split at hx
    · rename_i e; subst e
      rw [ren_self] at hz; cases hz
      rw [if_neg hne] at hx'
      rw [ren_ne (fun e => hne e.symm)] at hz'
      have := hr.lt hx' hz'
      omega
    · rename_i e
      rw [ren_ne (fun e' => e e'.symm)] at hz
      split at hx'
      · rename_i e'; subst e'
        rw [ren_self] at hz'; cases hz'
        have := hr.lt hx hz
        omega
      · rename_i e'
        rw [ren_ne (fun e'' => e' e''.symm)] at hz'
        exact hr.sep x x' y y' z z' hne hx hx' hz hz' hwr
  · rw [H.get_put] at hx
    split at hx
    · rename_i e; subst e
      rw [ren_self] at hz; cases hz
      omega
    · rename_i e
      rw [ren_ne (fun e' => e e'.symm)] at hz
      exact hr.new x y z hx hz hwr
  · exact hr.below.trans ⟨hs.os, hs.tape, hs.output, hsz, fun k hk => hold k (by omega)⟩
  · rw [H.next_put]
    rw [H.get_put] at hx
    split at hx
    · rename_i e; subst e; exact hlt
    · exact hr.wf x y hx

/-- What was laid early lies there still, behind an operation that knows nothing of it. -/
theorem HR.aug (hg : HR K B w0 ν g w) (hsub : ∀ b o, h.get b = some o → g.get b = some o) (hgn : g.next = h.next) (he : Ext ν h w ν' h' w') (hr : HR K B w0 ν' h' w') (hn : g'.next = h'.next)
    (hget : ∀ b, g'.get b = h'.get b ∨ (g'.get b = g.get b ∧ h.get b = none)) : HR K B w0 ν' g' w' := by
  -- of a block laid early: its name stood for the same ahead of the operation
  have old : ∀ b o l, g.get b = some o → ν' b = some l → ν b = some l := fun b o l hb hl => by
    have hlt : b < h.next := by rw [← hgn]; exact hg.wf b o hb
    cases hν : ν b with
    | none => rw [he.newdom b hν hlt] at hl; cases hl
    | some l0 => rw [he.le b l0 hν] at hl; exact hl
  have notOwned : ∀ b o l, g.get b = some o → h.get b = none → ν b = some l → ¬ Owned h ν l.blk := by
    rintro b o l hb hn hl ⟨b2, o2, l2, h2, hl2, hw2, e⟩
    have hne : b2 ≠ b := fun e => by subst e; rw [hn] at h2; cases h2
    exact hg.sep b2 b o2 o l2 l hne (hsub b2 o2 h2) hb hl2 hl hw2 e
  -- a block of the later memory lies elsewhere than one laid early
  have apart : ∀ b b' o o' l l', b ≠ b' → h'.get b = some o → g.get b' = some o' → h.get b' = none → ν' b = some l → ν b' = some l' → (writable o = true ∨ writable o' = true) → l.blk ≠ l'.blk := by
    intro b b' o o' l l' hne hb hb' hnb hl hl' hw
    cases hν : ν b with
    | some l0 =>
      have e0 : l0 = l := by have := he.le b l0 hν; rw [hl] at this; exact (Option.some.inj this).symm
      subst e0
      have hlt : b < h.next := by rw [← hgn]; exact hg.dom b l0 hν
      obtain ⟨o0, h0, hw0⟩ := he.live b o hlt hb
      rcases hw with hw | hw
      · exact hg.sep b b' o0 o' l0 l' hne (hsub b o0 h0) hb' hν hl' (hw0.trans hw)
      · exact fun e => hg.sep b' b o' o0 l' l0 (fun e => hne e.symm) hb' (hsub b o0 h0) hl' hν hw e.symm
    | none =>
      rcases he.fresh b l hν hl with hf | hf
      · have := hg.lt hb' hl'
        omega
      · intro e
        rw [e] at hf
        exact notOwned b' o' l' hb' hnb hl' hf
  refine ⟨fun b l hb => by rw [hn]; exact hr.dom b l hb, fun b o l hb hl => ?_, fun b b' o o' l l' hne hb hb' hl hl' hw => ?_, fun b o l hb hl hw => ?_, hr.below, hr.size, fun b o hb => ?_⟩
  · rcases hget b with e | ⟨e, e2⟩
    · exact hr.obj b o l (by rw [← e]; exact hb) hl
    · rw [e] at hb
      have hl0 := old b o l hb hl
      exact (hg.obj b o l hb hl0).mono he.le (he.frame _ (hg.lt hb hl0) (notOwned b o l hb e2 hl0))
  · rcases hget b with e | ⟨e, e2⟩
    · rcases hget b' with e' | ⟨e', e2'⟩
      · exact hr.sep b b' o o' l l' hne (by rw [← e]; exact hb) (by rw [← e']; exact hb') hl hl' hw
      · rw [e'] at hb'
        exact apart b b' o o' l l' hne (by rw [← e]; exact hb) hb' e2' hl (old b' o' l' hb' hl') (.inl hw)
    · rw [e] at hb
      rcases hget b' with e' | ⟨e', e2'⟩
      · exact fun q => apart b' b o' o l' l (fun e => hne e.symm) (by rw [← e']; exact hb') hb e2 hl' (old b o l hb hl) (.inr hw) q.symm
      · rw [e'] at hb'
        exact hg.sep b b' o o' l l' hne hb hb' (old b o l hb hl) (old b' o' l' hb' hl') hw
  · rcases hget b with e | ⟨e, e2⟩
    · exact hr.new b o l (by rw [← e]; exact hb) hl hw
    · rw [e] at hb
      exact hg.new b o l hb (old b o l hb hl) hw
  · rcases hget b with e | ⟨e, e2⟩
    · rw [hn]; exact hr.wf b o (by rw [← e]; exact hb)
    · rw [e] at hb
      have := hg.wf b o hb
      have := he.next
      omega

/-- From a state of memory ahead of a region: a name of the region's own now stands for a new block. -/
theorem Ext.name (e : Ext ν h w ν' h' w') {b : Nat} {l : Loc} {w2 : World} (hb : h.next ≤ b) (hν : ν' b = none) (hl : w'.heap.size ≤ l.blk) (hold : ∀ k, k < w'.heap.size → w2.heap[k]? = w'.heap[k]?) (hsz : w'.heap.size ≤ w2.heap.size) :
    Ext ν h w (ren ν' b l) h' w2 where
  le := Ren.le_trans e.le (ren_le hν)
  newdom := fun x hx hlt => by rw [ren_ne (by omega)]; exact e.newdom x hx hlt
  next := e.next
  phantom := e.phantom
  frame := fun k hk hn => (hold k (Nat.lt_of_lt_of_le hk e.size)).trans (e.frame k hk hn)
  size := Nat.le_trans e.size hsz
  fresh := fun x y hx hy => by
    unfold ren at hy
    split at hy
    · cases hy; exact .inl (Nat.le_trans e.size hl)
    · exact e.fresh x y hx hy
  live := e.live

theorem Ext.putOwn (e : Ext ν h w ν' h' w') {b : Nat} (o : O) (hb : h.next ≤ b) : Ext ν h w ν' (h'.put b o) w' where
  le := e.le
  newdom := e.newdom
  next := e.next
  phantom := fun x hx hn => by rw [H.get_put, if_neg (by omega)]; exact e.phantom x hx hn
  frame := e.frame
  size := e.size
  fresh := e.fresh
  live := fun x y hx hy => by rw [H.get_put, if_neg (by omega)] at hy; exact e.live x y hx hy

theorem Ext.reserve (e : Ext ν h w ν' h' w') (k : Nat) : Ext ν h w ν' { h' with next := h'.next + k } w' :=
  ⟨e.le, e.newdom, Nat.le_trans e.next (Nat.le_add_right _ _), e.phantom, e.frame, e.size, e.fresh, e.live⟩

/-! ### A reading looks into one block -/
theorem readOp_block {c : Ctx} {env : Env} {o : Op} (hk : kindOf c o = .reads) (hb : ∀ b, blockOf env o = some b → h.get b = g.get b) : readOp c h env o = readOp c g env o := by
  cases o with
  | load t a =>
    simp only [readOp]
    split
    · rename_i b off he
      have := hb b (by simp [blockOf, he])
      simp only [loadY, getCells, this]
    · rfl
  | lookup t m k ok =>
    simp only [readOp]
    split
    · rename_i mv kv hm hk
      cases mv with
      | map b =>
        have := hb b (by simp [blockOf, hm])
        simp only [lookupOp, entriesOf, getMap, this]
      | _ => rfl
    · rfl
  | convert s d x =>
    simp only [readOp]
    split
    · rename_i v hv
      cases v with
      | slice b off len cap opn =>
        have := hb b (by simp [blockOf, hv])
        simp only [firstCells, getCells, this]
      | _ => rfl
    · rfl
  | call c' =>
    simp only [readOp]
    split
    · rename_i x t ts h1 h2 h3
      cases isMapT c t with
      | false => rfl
      | true =>
        simp only [cond_true]
        split
        · rfl
        · rename_i b he
          have := hb b (by simp [blockOf, h2, he])
          simp only [getMap, this]
        · rfl
    · rfl
  | _ => rfl
end
end Go.Abs
