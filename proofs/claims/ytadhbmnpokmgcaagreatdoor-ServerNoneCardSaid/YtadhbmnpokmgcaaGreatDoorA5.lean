/- Steps of memory: a block is written, laid, given up, or moved. -/
import Derived.Test.YtadhbmnpokmgcaaGreatDoorA4
namespace Go.Abs
open Go Go.RowKit

def ren (ν : Ren) (b : Nat) (l : Loc) : Ren := fun x => if x = b then some l else ν x
theorem ren_le {ν : Ren} {b : Nat} {l : Loc} (h : ν b = none) : ν.le (ren ν b l) := fun x y hx => by
  unfold ren
  split
  · rename_i e; subst e; rw [h] at hx; cases hx
  · exact hx
theorem ren_self (ν : Ren) (b : Nat) (l : Loc) : ren ν b l b = some l := by simp [ren]
theorem ren_ne {ν : Ren} {b x : Nat} {l : Loc} (h : x ≠ b) : ren ν b l x = ν x := by simp [ren, h]

/-- The streams and the tape are as they were. -/
structure SameRest (w w' : World) : Prop where
  os : w'.os = w.os
  tape : w'.tape = w.tape
  output : w'.output = w.output

theorem SameRest.refl (w : World) : SameRest w w := ⟨rfl, rfl, rfl⟩

section steps
variable {K : CodeP} {B : Nat} {w0 w w' : World} {ν : Ren} {h : H}

theorem HR.free (hr : HR K B w0 ν h w) : ν h.next = none := by
  cases e : ν h.next with
  | none => rfl
  | some l => exact absurd (hr.dom _ _ e) (Nat.lt_irrefl _)

theorem HR.lt (hr : HR K B w0 ν h w) {b : Nat} {o : O} {l : Loc} (hb : h.get b = some o) (hl : ν b = some l) : l.blk < w.heap.size := (hr.obj b o l hb hl).lt

/-- Memory as it was, but for the draws. -/
theorem HR.same (hr : HR K B w0 ν h w) (hh : w'.heap = w.heap) (hs : SameRest w w') : HR K B w0 ν h w' where
  dom := hr.dom
  obj := fun b o l hb hl => (hr.obj b o l hb hl).mono (Ren.le_refl _) (by rw [hh])
  sep := hr.sep
  new := hr.new
  below := hr.below.trans ⟨hs.os, hs.tape, hs.output, by rw [hh]; exact Nat.le_refl _, fun k _ => by rw [hh]⟩
  size := by rw [hh]; exact hr.size
  wf := hr.wf

theorem Ext.same (hh : w'.heap = w.heap) : Ext ν h w ν h w' :=
  ⟨Ren.le_refl _, fun _ h _ => h, Nat.le_refl _, fun _ _ _ => .inl rfl, fun _ _ _ => by rw [hh], by rw [hh]; exact Nat.le_refl _, fun b l h1 h2 => (by rw [h1] at h2; cases h2), fun b o' _ hb => ⟨o', hb, rfl⟩⟩

/-- A block that may be written holds something else now. -/
theorem HR.put (hr : HR K B w0 ν h w) {b : Nat} {o o' : O} {l : Loc} (hb : h.get b = some o) (hl : ν b = some l) (hw : writable o = true) (hw' : writable o' = true)
    (hother : ∀ k, k ≠ l.blk → w'.heap[k]? = w.heap[k]?) (hsz : w'.heap.size = w.heap.size) (hs : SameRest w w') (ho : OR K ν l w' o') :
    HR K B w0 ν (h.put b o') w' ∧ Ext ν h w ν (h.put b o') w' := by
  have hbn := hr.new b o l hb hl hw
  constructor
  · refine ⟨fun x y hx => by rw [H.next_put]; exact hr.dom x y hx, fun x y z hx hz => ?_, fun x x' y y' z z' hne hx hx' hz hz' hwr => ?_, fun x y z hx hz hwr => ?_, ?_, ?_, fun x y hx => by
      rw [H.next_put]
      rw [H.get_put] at hx
      split at hx
      · rename_i e; subst e; exact hr.dom _ _ hl
      · exact hr.wf x y hx⟩
    · rw [H.get_put] at hx
      split at hx
      · rename_i e; subst e
        cases hx
        rw [hl] at hz; cases hz
        exact ho
      · rename_i e
        have hne : z.blk ≠ l.blk := fun he => hr.sep b x o y l z e hb hx hl hz hw he.symm
        exact (hr.obj x y z hx hz).mono (Ren.le_refl _) (hother _ hne)
    · rw [H.get_put] at hx hx'
      have h1 : ∃ y0, h.get x = some y0 ∧ writable y0 = true := by
        split at hx
        · rename_i e; subst e; exact ⟨o, hb, hw⟩
        · exact ⟨y, hx, hwr⟩
      have h2 : ∃ y0, h.get x' = some y0 := by
        split at hx'
        · rename_i e; subst e; exact ⟨o, hb⟩
        · exact ⟨y', hx'⟩
      obtain ⟨y0, a1, a2⟩ := h1
      obtain ⟨y1, a3⟩ := h2
      exact hr.sep x x' y0 y1 z z' hne a1 a3 hz hz' a2
    · rw [H.get_put] at hx
      split at hx
      · rename_i e; subst e
        rw [hl] at hz; cases hz
        exact hbn
      · exact hr.new x y z hx hz hwr
    · exact hr.below.trans ⟨hs.os, hs.tape, hs.output, by rw [hsz]; exact Nat.le_refl _, fun k hk => hother k (by omega)⟩
    · rw [hsz]; exact hr.size
  · refine ⟨Ren.le_refl _, fun _ h _ => h, Nat.le_refl _, fun x _ hx => ?_, fun k _ hk => hother k fun e => hk ⟨b, o, l, hb, hl, hw, e.symm⟩, by rw [hsz]; exact Nat.le_refl _, fun x y h1 h2 => (by rw [h1] at h2; cases h2), fun x y _ hx => ?_⟩
    · left
      rw [H.get_put]
      split
      · rename_i e; subst e; rw [hl] at hx; cases hx
      · rfl
    · rw [H.get_put] at hx
      split at hx
      · rename_i e; subst e
        cases hx
        exact ⟨o, hb, hw.trans hw'.symm⟩
      · exact ⟨y, hx, rfl⟩

/-- A block that may be written is given up. -/
theorem HR.kill (hr : HR K B w0 ν h w) (b : Nat) : HR K B w0 ν (h.kill b) w := by
  refine ⟨hr.dom, fun x y z hx hz => ?_, fun x x' y y' z z' hne hx hx' hz hz' hwr => ?_, fun x y z hx hz hwr => ?_, hr.below, hr.size, fun x y hx => by
    rw [H.get_kill] at hx
    split at hx
    · cases hx
    · exact hr.wf x y hx⟩
  · rw [H.get_kill] at hx
    split at hx
    · cases hx
    · exact hr.obj x y z hx hz
  · rw [H.get_kill] at hx hx'
    split at hx
    · cases hx
    · split at hx'
      · cases hx'
      · exact hr.sep x x' y y' z z' hne hx hx' hz hz' hwr
  · rw [H.get_kill] at hx
    split at hx
    · cases hx
    · exact hr.new x y z hx hz hwr

theorem Ext.kill {b : Nat} {l : Loc} (hl : ν b = some l) : Ext ν h w ν (h.kill b) w := by
  refine ⟨Ren.le_refl _, fun _ h _ => h, Nat.le_refl _, fun x _ hx => ?_, fun _ _ _ => rfl, Nat.le_refl _, fun x y h1 h2 => (by rw [h1] at h2; cases h2), fun x y _ hx => ?_⟩
  · left
    rw [H.get_kill]
    split
    · rename_i e; subst e; rw [hl] at hx; cases hx
    · rfl
  · rw [H.get_kill] at hx
    split at hx
    · cases hx
    · exact ⟨y, hx, rfl⟩

/-- A new block. -/
theorem HR.lay (hr : HR K B w0 ν h w) {o : O} {l : Loc} (hl : l.blk = w.heap.size)
    (hold : ∀ k, k < w.heap.size → w'.heap[k]? = w.heap[k]?) (hsz : w.heap.size ≤ w'.heap.size) (hs : SameRest w w') (ho : OR K (ren ν h.next l) l w' o) :
    HR K B w0 (ren ν h.next l) (h.new o) w' ∧ Ext ν h w (ren ν h.next l) (h.new o) w' := by
  have hle := ren_le (l := l) hr.free
  have hB := hr.size
  constructor
  · refine ⟨fun x y hx => ?_, fun x y z hx hz => ?_, fun x x' y y' z z' hne hx hx' hz hz' hwr => ?_, fun x y z hx hz hwr => ?_, ?_, by omega, fun x y hx => by
      rw [H.next_new]
      rw [H.get_new] at hx
      split at hx
      · omega
      · have := hr.wf x y hx; omega⟩
    · rw [H.next_new]
      unfold ren at hx
      split at hx
      · omega
      · have := hr.dom x y hx; omega
    · rw [H.get_new] at hx
      split at hx
      · rename_i e; subst e
        cases hx
        rw [ren_self] at hz; cases hz
        exact ho
      · rename_i e
        rw [ren_ne (fun e' => e e'.symm)] at hz
        exact (hr.obj x y z hx hz).mono hle (hold _ (hr.lt hx hz))
    · rw [H.get_new] at hx hx'
      split at hx
      · rename_i e; subst e
        rw [ren_self] at hz; cases hz
        rw [if_neg hne] at hx'
        rw [ren_ne (fun e => hne e.symm)] at hz'
        have := hr.lt hx' hz'
        omega
      · rename_i e
        rw [ren_ne (fun e' => e e'.symm)] at hz
        split at hx'
        · rename_i e'; subst e'
          rw [ren_self] at hz'; cases hz'
          have := hr.lt hx hz
          omega
        · rename_i e'
          rw [ren_ne (fun e'' => e' e''.symm)] at hz'
          exact hr.sep x x' y y' z z' hne hx hx' hz hz' hwr
    · rw [H.get_new] at hx
      split at hx
      · rename_i e; subst e
        rw [ren_self] at hz; cases hz
        omega
      · rename_i e
        rw [ren_ne (fun e' => e e'.symm)] at hz
        exact hr.new x y z hx hz hwr
    · exact hr.below.trans ⟨hs.os, hs.tape, hs.output, hsz, fun k hk => hold k (by omega)⟩
  · refine ⟨hle, fun x hx hlt => ?_, by rw [H.next_new]; omega, fun x hx _ => ?_, fun k hk _ => hold k hk, hsz, fun x y h1 h2 => ?_, fun x y hlt hx => ?_⟩
    · rw [ren_ne (by omega)]; exact hx
    · left; rw [H.get_new, if_neg (by omega)]
    · unfold ren at h2
      split at h2
      · cases h2; exact .inl (by omega)
      · rw [h1] at h2; cases h2
    · rw [H.get_new, if_neg (by omega)] at hx
      exact ⟨y, hx, rfl⟩

/-- A block that may be written goes on under a new name. -/
theorem HR.move (hr : HR K B w0 ν h w) {b : Nat} {o o' : O} {l l' : Loc} (hb : h.get b = some o) (hl : ν b = some l) (hw : writable o = true)
    (hl' : l'.blk = l.blk) (hother : ∀ k, k ≠ l.blk → w'.heap[k]? = w.heap[k]?) (hsz : w'.heap.size = w.heap.size) (hs : SameRest w w')
    (ho : OR K (ren ν h.next l') l' w' o') :
    HR K B w0 (ren ν h.next l') ((h.kill b).new o') w' ∧ Ext ν h w (ren ν h.next l') ((h.kill b).new o') w' := by
  have hle := ren_le (l := l') hr.free
  have hbn := hr.new b o l hb hl hw
  have hblt := hr.dom b l hl
  have hget : ∀ x, ((h.kill b).new o').get x = if h.next = x then some o' else if b = x then none else h.get x := fun x => by
    rw [H.get_new, H.get_kill, H.next_kill]
  constructor
  · refine ⟨fun x y hx => ?_, fun x y z hx hz => ?_, fun x x' y y' z z' hne hx hx' hz hz' hwr => ?_, fun x y z hx hz hwr => ?_, ?_, by rw [hsz]; exact hr.size, fun x y hx => by
      rw [H.next_new, H.next_kill]
      rw [hget] at hx
      split at hx
      · omega
      · split at hx
        · cases hx
        · have := hr.wf x y hx; omega⟩
    · rw [H.next_new, H.next_kill]
      unfold ren at hx
      split at hx
      · omega
      · have := hr.dom x y hx; omega
    · rw [hget] at hx
      split at hx
      · rename_i e; subst e
        cases hx
        rw [ren_self] at hz; cases hz
        exact ho
      · rename_i e
        rw [ren_ne (fun e' => e e'.symm)] at hz
        split at hx
        · cases hx
        · rename_i e2
          have hne : z.blk ≠ l.blk := fun he => hr.sep b x o y l z e2 hb hx hl hz hw he.symm
          exact (hr.obj x y z hx hz).mono hle (hother _ hne)
    · rw [hget] at hx hx'
      split at hx
      · rename_i e; subst e
        rw [ren_self] at hz; cases hz
        rw [if_neg hne] at hx'
        rw [ren_ne (fun e => hne e.symm)] at hz'
        split at hx'
        · cases hx'
        · rename_i e2
          rw [hl']
          exact hr.sep b x' o y' l z' e2 hb hx' hl hz' hw
      · rename_i e
        rw [ren_ne (fun e' => e e'.symm)] at hz
        split at hx
        · cases hx
        · rename_i e2
          split at hx'
          · rename_i e'; subst e'
            rw [ren_self] at hz'; cases hz'
            rw [hl']
            exact fun he => hr.sep b x o y l z e2 hb hx hl hz hw he.symm
          · rename_i e'
            rw [ren_ne (fun e'' => e' e''.symm)] at hz'
            split at hx'
            · cases hx'
            · exact hr.sep x x' y y' z z' hne hx hx' hz hz' hwr
    · rw [hget] at hx
      split at hx
      · rename_i e; subst e
        rw [ren_self] at hz; cases hz
        omega
      · rename_i e
        rw [ren_ne (fun e' => e e'.symm)] at hz
        split at hx
        · cases hx
        · exact hr.new x y z hx hz hwr
    · exact hr.below.trans ⟨hs.os, hs.tape, hs.output, by rw [hsz]; exact Nat.le_refl _, fun k hk => hother k (by omega)⟩
  · refine ⟨hle, fun x hx hlt => ?_, by rw [H.next_new, H.next_kill]; omega, fun x hx hn => ?_, fun k hk hno => hother k fun e => hno ⟨b, o, l, hb, hl, hw, e.symm⟩, by rw [hsz]; exact Nat.le_refl _, fun x y h1 h2 => ?_, fun x y hlt hx => ?_⟩
    · rw [ren_ne (by omega)]; exact hx
    · left
      rw [hget, if_neg (by omega)]
      split
      · rename_i e; subst e; rw [hl] at hn; cases hn
      · rfl
    · unfold ren at h2
      split at h2
      · cases h2; exact .inr ⟨b, o, l, hb, hl, hw, hl'.symm⟩
      · rw [h1] at h2; cases h2
    · rw [hget, if_neg (by omega)] at hx
      split at hx
      · cases hx
      · exact ⟨y, hx, rfl⟩
end steps
end Go.Abs
