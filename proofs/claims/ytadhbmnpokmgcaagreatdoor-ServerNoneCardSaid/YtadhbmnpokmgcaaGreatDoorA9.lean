/- The other operations that need no memory. -/
import Derived.Test.YtadhbmnpokmgcaaGreatDoorA8
namespace Go.Abs
open Go Go.RowKit

section parts
variable {P : Program} {c : Ctx} (hc : CtxOk P c) {ν : Ren} {w : World}

theorem sub_some {cs : List V} {o n : Nat} {r : List V} (h : sub cs o n = some r) : o + n ≤ cs.length ∧ r = (cs.drop o).take n := by
  unfold sub at h
  cases hb : Nat.ble (o + n) cs.length with
  | false => rw [hb] at h; cases h
  | true => rw [hb] at h; exact ⟨Nat.le_of_ble_eq_true hb, (Option.some.inj h).symm⟩

include hc in
theorem partOf_run {t : TypeId} {cs : List V} {off : Nat} {y : Y} (h : partOf c t cs off = some y) {xs : Array Value} (hx : LRel (VR ν) cs xs.toList) :
    ∃ v, (part t xs off).run P w = .ok v w ∧ YR ν y v := by
  unfold partOf at h
  cases ht : c.ti.get t with
  | none => rw [ht] at h; cases h
  | some i =>
    rw [ht] at h
    obtain ⟨d, inf, z, ti⟩ := tiok hc ht
    simp only [Option.bind_some] at h
    unfold part
    rw [rb (ti.run_isAgg w)]
    cases ha : i.agg with
    | true =>
      rw [ha] at h
      simp only [cond_true, Option.map_eq_some_iff] at h
      obtain ⟨r, hr, rfl⟩ := h
      obtain ⟨hle, rfl⟩ := sub_some hr
      rw [if_pos rfl, rb (ti.run_size w)]
      refine ⟨.agg (xs.extract off (off + i.size)), rfl, _, rfl, ?_⟩
      rw [Array.toList_extract, List.extract_eq_take_drop, Nat.add_sub_cancel_left]
      exact (hx.drop off).take _
    | false =>
      rw [ha] at h
      simp only [cond_false, Option.map_eq_some_iff] at h
      obtain ⟨x, hx0, rfl⟩ := h
      obtain ⟨v, hv, hr⟩ := hx.get hx0
      rw [Array.getElem?_toList] at hv
      rw [if_neg (by simp), hv]
      exact ⟨v, rfl, hr⟩

include hc in
theorem fieldOff_run {s f : Nat} {p : Nat × Nat} (h : fieldOff c s f = some p) :
    ∃ fs fl inf, P.underlying s = some (.struct fs) ∧ fs[f]? = some fl ∧ p = (fl.offset, fl.type) ∧ P.info? fl.type = some inf ∧ 1 ≤ inf.size := by
  unfold fieldOff at h
  cases ht : c.ti.get s with
  | none => rw [ht] at h; cases h
  | some i =>
    rw [ht] at h
    obtain ⟨d, inf, z, ti⟩ := tiok hc ht
    simp only [Option.bind_some] at h
    cases hd : i.d with
    | struct l =>
      rw [hd] at h
      simp only at h
      obtain ⟨fs, rfl, rfl, hall⟩ := ti.desc_struct hd
      rw [List.getElem?_map, Option.map_eq_some_iff] at h
      obtain ⟨fl, hfl, rfl⟩ := h
      obtain ⟨inf', hi, h1⟩ := hall fl (List.mem_of_getElem? hfl)
      exact ⟨fs, fl, inf', ti.und, by rw [← Array.getElem?_toList]; exact hfl, rfl, hi, h1⟩
    | _ => rw [hd] at h; cases h

theorem addr_add (b o n : Nat) : (⟨b, o, none⟩ : Addr).add n = ⟨b, o + n, none⟩ := by
  unfold Addr.add
  split
  · rename_i h; subst h; rfl
  · rfl

/-- One part laid into cells. -/
theorem splice_get {α : Type} (l us : List α) (o i : Nat) (h : o + us.length ≤ l.length) :
    (l.take o ++ us ++ l.drop (o + us.length))[i]? = if o ≤ i ∧ i < o + us.length then us[i - o]? else l[i]? := by
  have ht : (l.take o).length = o := by rw [List.length_take]; omega
  have htu : (l.take o ++ us).length = o + us.length := by rw [List.length_append, ht]
  by_cases h1 : i < o
  · rw [if_neg (by omega), List.getElem?_append_left (by rw [htu]; omega), List.getElem?_append_left (by rw [ht]; exact h1), List.getElem?_take, if_pos h1]
  · by_cases h2 : i < o + us.length
    · rw [if_pos ⟨by omega, h2⟩, List.getElem?_append_left (by rw [htu]; omega), List.getElem?_append_right (by rw [ht]; omega), ht]
    · rw [if_neg (by omega), List.getElem?_append_right (by rw [htu]; omega), htu, List.getElem?_drop]
      congr 1
      omega

theorem fill_get : ∀ (vs : List Value) (k : Nat) (cells : Array Value) (off : Nat), off + k + vs.length ≤ cells.size →
    ((vs.zipIdx k).foldl (fun (cs : Array Value) (p : Value × Nat) => cs.setIfInBounds (off + p.2) p.1) cells).size = cells.size ∧
    ∀ i : Nat, ((vs.zipIdx k).foldl (fun (cs : Array Value) (p : Value × Nat) => cs.setIfInBounds (off + p.2) p.1) cells)[i]? = if off + k ≤ i ∧ i < off + k + vs.length then vs[i - (off + k)]? else cells[i]? := by
  intro vs
  induction vs with
  | nil => intro k cells off _; exact ⟨rfl, fun i => by rw [if_neg (by simp only [List.length_nil]; omega)]; rfl⟩
  | cons v vs ih =>
    intro k cells off h
    simp only [List.length_cons] at h
    obtain ⟨h1, h2⟩ := ih (k + 1) (cells.setIfInBounds (off + k) v) off (by rw [Array.size_setIfInBounds]; omega)
    rw [List.zipIdx_cons, List.foldl_cons]
    refine ⟨h1.trans (Array.size_setIfInBounds ..), fun i => ?_⟩
    rw [h2 i]
    simp only [List.length_cons]
    by_cases e : i = off + k
    · subst e
      rw [if_neg (by omega), if_pos ⟨by omega, by omega⟩, Nat.sub_self, Array.getElem?_setIfInBounds_self_of_lt (by omega)]
      rfl
    · by_cases g : off + (k + 1) ≤ i ∧ i < off + (k + 1) + vs.length
      · rw [if_pos g, if_pos ⟨by omega, by omega⟩]
        obtain ⟨m, rfl⟩ : ∃ m, i = off + k + 1 + m := ⟨i - (off + k + 1), by omega⟩
        rw [show off + k + 1 + m - (off + (k + 1)) = m by omega, show off + k + 1 + m - (off + k) = m + 1 by omega, List.getElem?_cons_succ]
      · rw [if_neg g, if_neg (by omega), Array.getElem?_setIfInBounds_ne (fun e' => e e'.symm)]

theorem fill_fold (vs : List Value) (cells : Array Value) (off : Nat) (h : off + vs.length ≤ cells.size) :
    ((vs.zipIdx 0).foldl (fun (cs : Array Value) (p : Value × Nat) => cs.setIfInBounds (off + p.2) p.1) cells).toList = cells.toList.take off ++ vs ++ cells.toList.drop (off + vs.length) := by
  obtain ⟨_, h2⟩ := fill_get vs 0 cells off (by simpa using h)
  apply List.ext_getElem?
  intro i
  rw [Array.getElem?_toList, h2 i, splice_get cells.toList vs off i (by simpa using h)]
  simp only [Nat.add_zero, Array.getElem?_toList]

theorem setAt_LRel {cs : List V} {l : List Value} {o : Nat} {vs : List V} {us : List Value} (h : LRel (VR ν) cs l) (hv : LRel (VR ν) vs us) :
    LRel (VR ν) (setAt cs o vs) (l.take o ++ us ++ l.drop (o + us.length)) := by
  unfold setAt
  rw [← hv.length]
  exact ((h.take o).append hv).append (h.drop _)

theorem fill_run {d : TD} (place : Nat → Option (Nat × Nat)) (hp : ∀ i p, placeOf c d i = some p → place i = some p) :
    ∀ (l : List (Nat × Y)) (m : List (Nat × Value)) (cells : List V) (arr : Array Value) (r : List V), fillAll c d cells l = some r →
      LRel (fun (x : Nat × Y) (y : Nat × Value) => x.1 = y.1 ∧ YR ν x.2 y.2) l m → LRel (VR ν) cells arr.toList →
      ∃ arr', Instr.fill place arr m = some arr' ∧ LRel (VR ν) r arr'.toList ∧ arr'.size = arr.size := by
  intro l
  induction l with
  | nil =>
    intro m cells arr r h hm hcl
    cases m with
    | cons _ _ => exact hm.elim
    | nil => cases h; exact ⟨arr, rfl, hcl, rfl⟩
  | cons x l ih =>
    intro m cells arr r h hm hcl
    cases m with
    | nil => exact hm.elim
    | cons y m =>
      obtain ⟨i, yy⟩ := x
      obtain ⟨j, vv⟩ := y
      obtain ⟨⟨e, hy⟩, hm⟩ := hm
      simp only at e hy
      subst e
      unfold fillAll at h
      cases hpl : placeOf c d i with
      | none => rw [hpl] at h; cases h
      | some p =>
        rw [hpl] at h
        simp only [Option.bind_some] at h
        cases hg : (Nat.beq yy.cells.length p.2 && Nat.ble (p.1 + p.2) cells.length) with
        | false => rw [hg] at h; cases h
        | true =>
          rw [hg] at h
          simp only [cond_true, Bool.and_eq_true] at h hg
          have g1 : yy.cells.length = p.2 := Nat.eq_of_beq_eq_true hg.1
          have g2 := Nat.le_of_ble_eq_true hg.2
          have hyc := hy.cells
          have hl1 := hyc.length
          have hl2 := hcl.length
          obtain ⟨off, size⟩ := p
          simp only at g1 g2 h
          have hsz : vv.cells.size = size := by rw [← Array.length_toList, ← hl1]; exact g1
          have hasz : off + vv.cells.size ≤ arr.size := by rw [hsz, ← Array.length_toList, ← hl2]; exact g2
          unfold Instr.fill
          rw [hp i _ hpl]
          simp only
          rw [if_neg (by simp [hsz]; omega)]
          have key : (vv.cells.zipIdx.foldl (fun (cs : Array Value) (p : Value × Nat) => cs.setIfInBounds (off + p.2) p.1) arr).toList = arr.toList.take off ++ vv.cells.toList ++ arr.toList.drop (off + vv.cells.toList.length) := by
            rw [← Array.foldl_toList, Array.toList_zipIdx]
            exact fill_fold vv.cells.toList arr off (by simpa using hasz)
          have hsize : (vv.cells.zipIdx.foldl (fun (cs : Array Value) (p : Value × Nat) => cs.setIfInBounds (off + p.2) p.1) arr).size = arr.size := by
            rw [← Array.length_toList, key]
            simp only [List.length_append, List.length_take, List.length_drop, Array.length_toList]
            omega
          obtain ⟨arr', h1, h2, h3⟩ := ih m (setAt cells off yy.cells) _ r h hm (by rw [key]; exact setAt_LRel hcl hyc)
          exact ⟨arr', h1, h2, h3.trans hsize⟩
end parts
end Go.Abs
