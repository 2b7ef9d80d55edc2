/- The theorem on operations that do something: cells written, maps, iterators. -/
import Derived.Test.YtadhbmnpokmgcaaGreatDoorA14
import Derived.Laws.IdiomCopy
import Derived.Laws.IdiomRangeMap
namespace Go.Abs
open Go Go.RowKit

def setMany (c : Array Value) (o : Nat) : List Value → Array Value
  | [] => c
  | v :: r => setMany (c.setIfInBounds o v) (o + 1) r

theorem setMany_size : ∀ (vs : List Value) (c : Array Value) (o : Nat), (setMany c o vs).size = c.size
  | [], _, _ => rfl
  | v :: r, c, o => by rw [setMany, setMany_size r]; simp

theorem setMany_get : ∀ (vs : List Value) (c : Array Value) (o i : Nat), o + vs.length ≤ c.size → (setMany c o vs)[i]? = if o ≤ i ∧ i < o + vs.length then vs[i - o]? else c[i]?
  | [], c, o, i, h => by
    rw [setMany, if_neg (by simp only [List.length_nil]; omega)]
  | v :: r, c, o, i, h => by
    simp only [List.length_cons] at h
    rw [setMany, setMany_get r _ _ _ (by simp; omega), Array.getElem?_setIfInBounds]
    by_cases h1 : i = o
    · subst h1
      rw [if_neg (by omega), if_pos rfl, if_pos (by omega), if_pos (by simp)]
      simp
    · by_cases h2 : o ≤ i ∧ i < o + (r.length + 1)
      · rw [if_pos (by omega), if_pos (by simpa using h2), show i - o = (i - (o + 1)) + 1 by omega]
        simp
      · rw [if_neg (by omega), if_neg (fun e => h1 e.symm), if_neg (by simpa using h2)]

theorem setCells_heap (b : Nat) : ∀ (vs : List Value) (o : Nat) (w : World) (c : Array Value) (t : TypeId) (fr : Nat × Nat), w.heap[b]? = some (.cells c t fr) →
    (w.setCells b o vs).heap[b]? = some (.cells (setMany c o vs) t fr) ∧ (∀ k, k ≠ b → (w.setCells b o vs).heap[k]? = w.heap[k]?) ∧ (w.setCells b o vs).heap.size = w.heap.size ∧ SameRest w (w.setCells b o vs)
  | [], _, w, c, t, fr, h => ⟨h, fun _ _ => rfl, rfl, ⟨rfl, rfl, rfl⟩⟩
  | v :: r, o, w, c, t, fr, h => by
    have h1 : (w.setCell ⟨b, o, none⟩ v).heap[b]? = some (.cells (c.setIfInBounds o v) t fr) := by
      simp [World.setCell, Array.getElem?_modify, h]
    have h2 : ∀ k, k ≠ b → (w.setCell ⟨b, o, none⟩ v).heap[k]? = w.heap[k]? := fun k hk => by
      simp only [World.setCell, Array.getElem?_modify]
      rw [if_neg (fun e => hk e.symm)]
    have h3 : (w.setCell ⟨b, o, none⟩ v).heap.size = w.heap.size := by simp [World.setCell]
    obtain ⟨i1, i2, i3, i4⟩ := setCells_heap b r (o + 1) (w.setCell ⟨b, o, none⟩ v) _ t fr h1
    exact ⟨i1, fun k hk => (i2 k hk).trans (h2 k hk), i3.trans h3, ⟨i4.os, i4.tape, i4.output⟩⟩

/-- What an operation gives. -/
def nextR (ν : Ren) (x : X) : Next → Prop
  | .value v => XR ν x v
  | .skip => x = undefX
  | _ => False

section
variable {K : CodeP} {B : Nat} {w0 w : World} {ν : Ren} {h : H} {P : Program} {c : Ctx} (hc : CtxOk P c)

def Does (K : CodeP) (B : Nat) (w0 : World) (P : Program) (ν : Ren) (h : H) (w : World) (Q : X × H → Prop) (s : Sem Next) : Prop :=
  ∃ x h' n ν' w', Q (x, h') ∧ s.run P w = .ok n w' ∧ nextR ν' x n ∧ HR K B w0 ν' h' w' ∧ Ext ν h w ν' h' w'

theorem Does.unit {Q : X × H → Prop} {s : Sem Unit} {h' : H} {ν' : Ren} {w' : World} (hQ : Q (undefX, h')) (hs : s.run P w = .ok () w') (hr : HR K B w0 ν' h' w') (he : Ext ν h w ν' h' w') :
    Does K B w0 P ν h w Q (do s; pure .skip) := ⟨undefX, h', .skip, ν', w', hQ, by rw [rb hs]; rfl, rfl, hr, he⟩

theorem Does.val {Q : X × H → Prop} {s : Sem Value} {v : Value} {x : X} {h' : H} {ν' : Ren} {w' : World} (hQ : Q (x, h')) (hs : s.run P w = .ok v w') (hx : XR ν' x v) (hr : HR K B w0 ν' h' w') (he : Ext ν h w ν' h' w') :
    Does K B w0 P ν h w Q (do pure (.value (← s))) := ⟨x, h', .value v, ν', w', hQ, vrun hs, hx, hr, he⟩

theorem undef_XR (ν : Ren) : XR ν undefX (.tuple #[]) := ⟨#[], rfl, trivial⟩

theorem LRel.ones {vs : List V} {us : List Value} (h : LRel (VR ν) vs us) : ∀ u ∈ us, u.oneCell' = true := by
  intro u hu
  obtain ⟨i, hi⟩ := List.mem_iff_getElem?.1 hu
  obtain ⟨a, _, hr⟩ := h.get' hi
  exact hr.oneCell

theorem putCells_some {b o : Nat} {vs : List V} {h' : H} (hp : putCells h b o vs = some h') : ∃ cs, h.get b = some (.cells cs false) ∧ o + vs.length ≤ cs.length ∧ h' = h.put b (.cells (setAt cs o vs) false) := by
  unfold putCells at hp
  split at hp
  · rename_i cs hg
    cases hb : Nat.ble (o + vs.length) cs.length with
    | false => rw [hb] at hp; cases hp
    | true =>
      rw [hb] at hp
      cases hp
      exact ⟨cs, hg, Nat.le_of_ble_eq_true hb, rfl⟩
  · cases hp

/-- Cells are written. -/
theorem HR.store (hr : HR K B w0 ν h w) {b o : Nat} {vs : List V} {us : List Value} {h' : H} {l : Loc} (hp : putCells h b o vs = some h') (hl : ν b = some l) (hv : LRel (VR ν) vs us) :
    ∃ w', (storeCells ⟨l.blk, l.base + o, none⟩ us).run P w = .ok () w' ∧ HR K B w0 ν h' w' ∧ Ext ν h w ν h' w' := by
  obtain ⟨cs, hg, hle, rfl⟩ := putCells_some hp
  obtain ⟨cc, t, fr, h1, h2, h3⟩ := hr.obj b _ l hg hl
  obtain ⟨h4, h5, h6⟩ := h3 rfl
  have hlen := hv.length
  have hst := run_storeCells_cells (P := P) l.blk (l.base + o) us 0 w (fun j hj => by
      have hlt : o + j < cs.length := by omega
      obtain ⟨v, hv1, _⟩ := hr.cells (b := b) (cs := cs) (by simp [getCells, hg]) hl (o + j) cs[o + j] (List.getElem?_eq_getElem hlt)
      rw [show l.base + o + 0 + j = l.base + (o + j) by omega, hv1]; rfl) (fun j hj => by
      have := h6 (o + j) (by omega)
      simp only [World.frozen?, h1, Bool.and_eq_false_iff, decide_eq_false_iff_not]
      by_cases hf : fr.1 ≤ l.base + (o + j)
      · right; intro hh; exact this ⟨hf, by simp at hh; omega⟩
      · left; simp; omega) hv.ones
  rw [Nat.add_zero] at hst
  obtain ⟨g1, g2, g3, g4⟩ := setCells_heap l.blk us (l.base + o) w cc t fr h1
  refine ⟨_, hst, hr.put hg hl rfl rfl g2 g3 g4 ⟨_, t, fr, g1, fun i x hx => ?_, fun _ => ⟨?_, ?_, h6⟩⟩⟩
  · rw [setMany_get us cc (l.base + o) (l.base + i) (by omega)]
    unfold setAt at hx
    rw [splice_get cs vs o i hle] at hx
    split at hx
    · rename_i hi
      obtain ⟨u, hu1, hu2⟩ := hv.get hx
      rw [if_pos (by omega), show l.base + i - (l.base + o) = i - o by omega]
      exact ⟨u, hu1, hu2⟩
    · rename_i hi
      rw [if_neg (by omega)]
      exact h2 i x hx
  · unfold setAt
    simp only [List.length_append, List.length_take, List.length_drop]
    omega
  · rw [setMany_size]; exact h5

theorem putOver_some {b o : Nat} {vs : List V} {h' : H} (hp : putOver h b o vs = some h') : ∃ cs, h.get b = some (.cells cs false) ∧ o ≤ cs.length ∧ h' = h.put b (.cells (setAt cs o vs) false) := by
  unfold putOver at hp
  split at hp
  · rename_i cs hg
    cases hb : Nat.ble o cs.length with
    | true => rw [hb] at hp; cases hp; exact ⟨cs, hg, Nat.le_of_ble_eq_true hb, rfl⟩
    | false => rw [hb] at hp; cases hp
  · cases hp

theorem splice_over {α : Type} (l us : List α) (o i : Nat) (h : o ≤ l.length) :
    (l.take o ++ us ++ l.drop (o + us.length))[i]? = if o ≤ i ∧ i < o + us.length then us[i - o]? else l[i]? := by
  by_cases h1 : i < o
  · rw [if_neg (by omega), List.append_assoc, List.getElem?_append_left (by simp; omega), List.getElem?_take, if_pos h1]
  · by_cases h2 : i < o + us.length
    · rw [if_pos ⟨by omega, h2⟩, List.getElem?_append_left (by simp; omega), List.getElem?_append_right (by simp; omega)]
      congr 1
      simp
      omega
    · rw [if_neg (by omega), List.getElem?_append_right (by simp; omega), List.getElem?_drop]
      congr 1
      simp
      omega

/-- Cells are written, beyond those that are known too, where the block has room. -/
theorem HR.storeOver (hr : HR K B w0 ν h w) {b o : Nat} {vs : List V} {us : List Value} {h' : H} {l : Loc} (hp : putOver h b o vs = some h') (hl : ν b = some l) (hv : LRel (VR ν) vs us) (hroom : o + vs.length ≤ l.tot) :
    ∃ w', (storeCells ⟨l.blk, l.base + o, none⟩ us).run P w = .ok () w' ∧ HR K B w0 ν h' w' ∧ Ext ν h w ν h' w' := by
  obtain ⟨cs, hg, hle, rfl⟩ := putOver_some hp
  obtain ⟨cc, t, fr, h1, h2, h3⟩ := hr.obj b _ l hg hl
  obtain ⟨h4, h5, h6⟩ := h3 rfl
  have hlen := hv.length
  have hst := run_storeCells_cells (P := P) l.blk (l.base + o) us 0 w (fun j hj => by
      have hlt2 : l.base + o + 0 + j < cc.size := by omega
      simp only [World.cell?, h1]
      simp [hlt2]
      omega) (fun j hj => by
      have := h6 (o + j) (by omega)
      simp only [World.frozen?, h1, Bool.and_eq_false_iff, decide_eq_false_iff_not]
      by_cases hf : fr.1 ≤ l.base + (o + j)
      · right; intro hh; exact this ⟨hf, by simp at hh; omega⟩
      · left; simp; omega) hv.ones
  rw [Nat.add_zero] at hst
  obtain ⟨g1, g2, g3, g4⟩ := setCells_heap l.blk us (l.base + o) w cc t fr h1
  refine ⟨_, hst, hr.put hg hl rfl rfl g2 g3 g4 ⟨_, t, fr, g1, fun i x hx => ?_, fun _ => ⟨?_, ?_, h6⟩⟩⟩
  · rw [setMany_get us cc (l.base + o) (l.base + i) (by omega)]
    unfold setAt at hx
    rw [splice_over cs vs o i hle] at hx
    split at hx
    · rename_i hi
      obtain ⟨u, hu1, hu2⟩ := hv.get hx
      rw [if_pos (by omega), show l.base + i - (l.base + o) = i - o by omega]
      exact ⟨u, hu1, hu2⟩
    · rename_i hi
      rw [if_neg (by omega)]
      exact h2 i x hx
  · unfold setAt
    simp only [List.length_append, List.length_take, List.length_drop]
    omega
  · rw [setMany_size]; exact h5

/-! ### Maps -/
theorem run_setObj {r : Nat} {ob : Obj} (hb : w.heap[r]? = some ob) (hn : ∀ cc t f, ob ≠ .cells cc t f) (o' : Obj) : (setObj r o').run P w = .ok () { w with heap := w.heap.setIfInBounds r o' } := by
  cases ob with
  | cells cc t f => exact absurd rfl (hn cc t f)
  | _ => simp [setObj, Sem.run, hb]

theorem HR.putObj (hr : HR K B w0 ν h w) {b : Nat} {o o' : O} {l : Loc} {ob : Obj} (hb : h.get b = some o) (hl : ν b = some l) (hw : writable o = true) (hw' : writable o' = true)
    (ho : OR K ν l { w with heap := w.heap.setIfInBounds l.blk ob } o') :
    HR K B w0 ν (h.put b o') { w with heap := w.heap.setIfInBounds l.blk ob } ∧ Ext ν h w ν (h.put b o') { w with heap := w.heap.setIfInBounds l.blk ob } :=
  hr.put hb hl hw hw' (fun k hk => by
    show (w.heap.setIfInBounds l.blk ob)[k]? = _
    rw [Array.getElem?_setIfInBounds, if_neg (fun e => hk e.symm)]) (by simp) ⟨rfl, rfl, rfl⟩ ho

theorem set_here {r : Nat} (hr : r < w.heap.size) (ob : Obj) : ({ w with heap := w.heap.setIfInBounds r ob } : World).heap[r]? = some ob := by
  show (w.heap.setIfInBounds r ob)[r]? = _
  rw [Array.getElem?_setIfInBounds, if_pos rfl, if_pos hr]

theorem setNth_R {k v : Y} {vk vv : Value} (hk : YR ν k vk) (hv : YR ν v vv) : ∀ {es : List (Y × Y × Nat)} {es' : List MapEntry} (i : Nat), LRel (EntR ν) es es' →
    LRel (EntR ν) (setNth es i k v) (es'.modify i fun e => { e with key := vk, val := vv })
  | [], [], _, _ => by simp [setNth, LRel]
  | e :: es, e' :: es', 0, h => by
    simp only [setNth, List.modify_zero_cons]
    exact ⟨⟨hk, hv, h.1.2.2⟩, h.2⟩
  | e :: es, e' :: es', i + 1, h => by
    simp only [setNth, List.modify_succ_cons]
    exact ⟨h.1, setNth_R hk hv i h.2⟩
  | [], _ :: _, _, h => h.elim
  | _ :: _, [], _, h => h.elim

theorem LRel.eraseIdx {α β : Type} {R : α → β → Prop} : ∀ {l : List α} {m : List β} (i : Nat), LRel R l m → LRel R (l.eraseIdx i) (m.eraseIdx i)
  | [], [], _, _ => by simp [LRel]
  | _ :: _, _ :: _, 0, h => h.2
  | _ :: _, _ :: _, i + 1, h => ⟨h.1, LRel.eraseIdx i h.2⟩
  | [], _ :: _, _, h => h.elim
  | _ :: _, [], _, h => h.elim

include hc in
theorem HR.mapUpdate (hr : HR K B w0 ν h w) {t : Nat} {m : V} {k v : Y} {h' : H} (hx : mapUpdateOp c h t m k v = some h') {vm vk vv : Value} (hm : VR ν m vm) (hk : YR ν k vk) (hv : YR ν v vv) :
    ∃ w', (Instr.mapUpdate t vm vk vv).run P w = .ok () w' ∧ HR K B w0 ν h' w' ∧ Ext ν h w ν h' w' := by
  unfold mapUpdateOp at hx
  split at hx
  · rename_i b
    simp only [Option.bind_eq_some_iff, Option.map_eq_some_iff] at hx
    obtain ⟨ke, hke, p, hp, r, hf, rfl⟩ := hx
    have hu := mapT_some hc hke
    obtain ⟨l, hl, rfl⟩ := hm
    have hg := getMap_some hp
    obtain ⟨es', h1, h2⟩ := hr.obj b _ l hg hl
    have hlt := hr.lt hg hl
    obtain ⟨hck, r', hfk, hhit⟩ := findAt_run (w := w) hc hf hk h2
    cases r with
    | none =>
      cases r' with
      | some _ => exact hhit.elim
      | none =>
        refine ⟨_, ?_, hr.putObj hg hl rfl rfl (ob := .map (es'.push { key := vk, val := vv, born := p.2 }) (p.2 + 1)) ?_⟩
        · unfold Instr.mapUpdate
          rw [rb (run_underlying hu w)]
          simp only
          rw [rb (MapKept.run_getObj_map h1)]
          simp only
          rw [rb (hck _), rb hfk]
          exact run_setObj h1 (by simp) _
        · refine ⟨_, set_here hlt _, ?_⟩
          rw [Array.toList_push]
          exact h2.append ⟨⟨hk, hv, rfl⟩, trivial⟩
    | some q =>
      cases r' with
      | none => exact hhit.elim
      | some q' =>
        obtain ⟨e1, e2, _, e', he', _, hsame⟩ := hhit
        rw [Nat.sub_zero] at he'
        refine ⟨_, ?_, hr.putObj hg hl rfl rfl (ob := .map (es'.modify q'.1 fun e => { e with key := vk, val := vv }) p.2) ?_⟩
        · unfold Instr.mapUpdate
          rw [rb (run_underlying hu w)]
          simp only
          rw [rb (MapKept.run_getObj_map h1)]
          simp only
          rw [rb (hck _), rb hfk]
          simp only
          have hkt : (Instr.keyThatStays (((es'[q'.1]?).map (·.key)).getD vk) vk).run P w = .ok vk w := by
            rw [← e1, ← Array.getElem?_toList, he']
            unfold Instr.keyThatStays
            simp only [Option.map_some, Option.getD_some, hsame, if_true]
            rfl
          rw [rb hkt]
          exact run_setObj h1 (by simp) _
        · refine ⟨_, set_here hlt _, ?_⟩
          rw [Array.toList_modify, ← e1]
          exact setNth_R hk hv _ h2
  · cases hx

include hc in
theorem HR.delete (hr : HR K B w0 ν h w) {t : Nat} {ts : List TypeId} {ty : TypeId} {m : V} {k : Y} {h' : H} (hx : deleteOp c h t m k = some h') {vm vk : Value} (hm : VR ν m vm) (hk : YR ν k vk) :
    ∃ w', (Builtin.delete_ ⟨t :: ts⟩ ty ⟨[vm, vk]⟩).run P w = .ok (.tuple #[]) w' ∧ HR K B w0 ν h' w' ∧ Ext ν h w ν h' w' := by
  unfold deleteOp at hx
  split at hx
  · rename_i b
    simp only [Option.bind_eq_some_iff, Option.map_eq_some_iff] at hx
    obtain ⟨ke, hke, p, hp, r, hf, rfl⟩ := hx
    have hu := mapT_some hc hke
    obtain ⟨l, hl, rfl⟩ := hm
    have hg := getMap_some hp
    obtain ⟨es', h1, h2⟩ := hr.obj b _ l hg hl
    have hlt := hr.lt hg hl
    obtain ⟨hck, r', hfk, hhit⟩ := findAt_run (w := w) hc hf hk h2
    cases r with
    | none =>
      cases r' with
      | some _ => exact hhit.elim
      | none =>
        have hw : w.heap.setIfInBounds l.blk (.map es' p.2) = w.heap := by
          apply Array.ext_getElem?
          intro i
          rw [Array.getElem?_setIfInBounds]
          split
          · rename_i e; subst e; rw [h1]
          · rfl
        refine ⟨{ w with heap := w.heap.setIfInBounds l.blk (.map es' p.2) }, ?_, hr.same hw ⟨rfl, rfl, rfl⟩, Ext.same hw⟩
        unfold Builtin.delete_
        simp only [List.getElem?_toArray, List.getElem?_cons_zero, List.getElem?_cons_succ]
        rw [rb (run_underlying hu w)]
        simp only
        rw [rb (MapKept.run_getObj_map h1)]
        simp only
        rw [rb (hck _), rb hfk]
        simp only
        rw [rb (run_setObj h1 (by simp) _)]
        rfl
    | some q =>
      cases r' with
      | none => exact hhit.elim
      | some q' =>
        obtain ⟨e1, e2, _, e', he', _, hsame⟩ := hhit
        refine ⟨_, ?_, hr.putObj hg hl rfl rfl (ob := .map (es'.eraseIdxIfInBounds q'.1) p.2) ?_⟩
        · unfold Builtin.delete_
          simp only [List.getElem?_toArray, List.getElem?_cons_zero, List.getElem?_cons_succ]
          rw [rb (run_underlying hu w)]
          simp only
          rw [rb (MapKept.run_getObj_map h1)]
          simp only
          rw [rb (hck _), rb hfk]
          simp only
          rw [rb (run_setObj h1 (by simp) _)]
          rfl
        · refine ⟨_, set_here hlt _, ?_⟩
          rw [Array.toList_eraseIdxIfInBounds, ← e1]
          exact h2.eraseIdx _
  · cases hx
end
end Go.Abs
