/- The theorem on operations that do something: iterators, slices grown and copied. -/
import Derived.Test.YtadhbmnpokmgcaaGreatDoorA15
import Derived.Maps.RangeRun
namespace Go.Abs
open Go Go.RowKit

section
variable {K : CodeP} {B : Nat} {w0 w : World} {ν : Ren} {h : H} {P : Program} {c : Ctx} (hc : CtxOk P c)

theorem LRel.filter {α β : Type} {R : α → β → Prop} {p : α → Bool} {q : β → Bool} (hpq : ∀ a b, R a b → p a = q b) : ∀ {l : List α} {m : List β}, LRel R l m → LRel R (l.filter p) (m.filter q)
  | [], [], _ => trivial
  | a :: l, b :: m, h => by
    rw [List.filter_cons, List.filter_cons, hpq a b h.1]
    split
    · exact ⟨h.1, LRel.filter hpq h.2⟩
    · exact LRel.filter hpq h.2
  | [], _ :: _, h => h.elim
  | _ :: _, [], h => h.elim

theorem LRel.find {α β : Type} {R : α → β → Prop} {p : α → Bool} {q : β → Bool} (hpq : ∀ a b, R a b → p a = q b) : ∀ {l : List α} {m : List β} {a : α}, LRel R l m → l.find? p = some a → ∃ b, m.find? q = some b ∧ R a b
  | [], [], _, _, h => by cases h
  | a :: l, b :: m, x, h, hf => by
    rw [List.find?_cons] at hf ⊢
    rw [← hpq a b h.1]
    cases hp : p a with
    | true => rw [hp] at hf; cases hf; exact ⟨b, rfl, h.1⟩
    | false => rw [hp] at hf; exact LRel.find hpq h.2 hf
  | [], _ :: _, _, h, _ => h.elim
  | _ :: _, [], _, h, _ => h.elim

theorem LRel.mem' {α β : Type} {R : α → β → Prop} {l : List α} {m : List β} (h : LRel R l m) {b : β} (hb : b ∈ m) : ∃ (i : Nat) (a : α), l[i]? = some a ∧ R a b := by
  obtain ⟨i, hi⟩ := List.mem_iff_getElem?.1 hb
  obtain ⟨a, h1, h2⟩ := h.get' hi
  exact ⟨i, a, h1, h2⟩

/-- A new block, laid for an iterator or a record. -/
theorem HR.newObj (hr : HR K B w0 ν h w) {o : O} (ob : Obj) (ho : ∀ w' : World, w'.heap[w.heap.size]? = some ob → OR K (ren ν h.next ⟨w.heap.size, 0, 0⟩) ⟨w.heap.size, 0, 0⟩ w' o) :
    (Go.newObj ob).run P w = .ok w.heap.size { w with heap := w.heap.push ob } ∧
    HR K B w0 (ren ν h.next ⟨w.heap.size, 0, 0⟩) (h.new o) { w with heap := w.heap.push ob } ∧ Ext ν h w (ren ν h.next ⟨w.heap.size, 0, 0⟩) (h.new o) { w with heap := w.heap.push ob } :=
  ⟨rfl, hr.lay rfl (push_hold _ _) (by rw [push_size]; omega) ⟨rfl, rfl, rfl⟩ (ho _ (push_last _ _))⟩

include hc in
theorem range_sound (hr : HR K B w0 ν h w) {Q : X × H → Prop} {t : Nat} {v : V} {vx : Value} (hv : VR ν v vx)
    (hx : (rangeOp c h t v).all Q) : Does K B w0 P ν h w Q (do pure (.value (← Instr.range t vx))) := by
  unfold rangeOp at hx
  obtain ⟨i, hi, hx⟩ := okO_some hx
  obtain ⟨d, inf, z, ti⟩ := tiok hc hi
  cases hd : i.d with
  | str =>
    rw [hd] at hx
    have e := ti.desc_str hd
    subst e
    cases v with
    | str s =>
      have e : vx = .string ⟨⟨s⟩⟩ := hv
      obtain ⟨h1, h2, h3⟩ := hr.newObj (P := P) (o := .siter s 0) (.stringIter ⟨⟨s⟩⟩ 0) fun w' hw => ⟨rfl, hw⟩
      refine .val (v := .pointer (some ⟨w.heap.size, 0, none⟩)) hx ?_ ⟨_, ren_self _ _ _, rfl⟩ h2 h3
      unfold Instr.range
      rw [rb (ti.run_und w), e]
      rfl
    | _ => exact hx.elim
  | map k e =>
    rw [hd] at hx
    have e0 := ti.desc_map hd
    subst e0
    cases v with
    | nilm =>
      have e : vx = .map none := hv
      obtain ⟨h1, h2, h3⟩ := hr.newObj (P := P) (o := .miter none 0 [] 0) (.mapIter none 0 #[] 0) fun w' hw => ⟨rfl, none, rfl, hw⟩
      refine .val (v := .pointer (some ⟨w.heap.size, 0, none⟩)) hx ?_ ⟨_, ren_self _ _ _, rfl⟩ h2 h3
      unfold Instr.range
      rw [rb (ti.run_und w), e]
      rfl
    | map m =>
      obtain ⟨p, hp, hx⟩ := okO_some hx
      obtain ⟨l, hl, e⟩ := hv
      obtain ⟨es', h4, _⟩ := hr.obj m _ l (getMap_some hp) hl
      obtain ⟨h1, h2, h3⟩ := hr.newObj (P := P) (o := .miter (some m) p.2 [] p.2) (.mapIter (some l.blk) p.2 #[] p.2) fun w' hw =>
        ⟨rfl, some l.blk, ⟨l, ren_le hr.free _ _ hl, rfl⟩, hw⟩
      refine .val (v := .pointer (some ⟨w.heap.size, 0, none⟩)) hx ?_ ⟨_, ren_self _ _ _, rfl⟩ h2 h3
      unfold Instr.range
      rw [rb (ti.run_und w), e]
      simp only
      rw [rb (MapKept.run_getObj_map h4)]
      rfl
    | _ => exact hx.elim
  | _ => rw [hd] at hx; exact hx.elim

theorem run_getObj {r : Nat} {ob : Obj} (hb : w.heap[r]? = some ob) (hn : ∀ cc t f, ob ≠ .cells cc t f) : (getObj r).run P w = .ok ob w := by
  cases ob with
  | cells cc t f => exact absurd rfl (hn cc t f)
  | _ => simp [getObj, Sem.run, hb]

theorem next_sound (hr : HR K B w0 ν h w) {Q : X × H → Prop} {b : Nat} {isStr : Bool} {ty : TypeId} {vx : Value} (hv : VR ν (.ptr b 0) vx)
    (hx : (nextOp h b isStr).all Q) : Does K B w0 P ν h w Q (do pure (.value (← Instr.next vx isStr ty))) := by
  unfold nextOp at hx
  obtain ⟨l, hl, e⟩ := hv
  cases hg : h.get b with
  | none => rw [hg] at hx; exact hx.elim
  | some o =>
    have hor := hr.obj b o l hg hl
    have hlt := hr.lt hg hl
    rw [hg] at hx
    cases o with
    | siter s pos =>
      obtain ⟨hi, hx2⟩ := (guardT_all _ _).1 hx
      clear hx
      subst hi
      obtain ⟨hb0, hh⟩ := hor
      have e : vx = .pointer (some ⟨l.blk, 0, none⟩) := by rw [e, hb0]; rfl
      subst e
      cases hs : s[pos]? with
      | none =>
        rw [hs] at hx2
        refine .val (v := .tuple #[.bool false]) hx2 ?_ ⟨_, rfl, rfl, trivial⟩ hr (Ext.refl _ _ _)
        unfold Instr.next
        simp only
        rw [rb (run_getObj hh (by simp))]
        have hn : ¬ pos < (⟨⟨s⟩⟩ : ByteArray).size := by
          have := List.getElem?_eq_none_iff.1 hs
          show ¬ pos < s.length
          omega
        simp only [if_neg hn]
        rfl
      | some _ =>
        rw [hs] at hx2
        have hlt2 : pos < (⟨⟨s⟩⟩ : ByteArray).size := (List.getElem?_eq_some_iff.1 hs).1
        obtain ⟨g1, g2⟩ := hr.putObj (o' := .siter s (pos + (Utf8.decode ⟨⟨s⟩⟩ pos).2)) hg hl rfl rfl (ob := .stringIter ⟨⟨s⟩⟩ (pos + (Utf8.decode ⟨⟨s⟩⟩ pos).2)) ⟨hb0, set_here hlt _⟩
        refine .val (v := .tuple #[.bool true, goInt pos, .int .i32 (Utf8.decode ⟨⟨s⟩⟩ pos).1]) hx2 ?_ ⟨_, rfl, rfl, rfl, rfl, trivial⟩ g1 g2
        unfold Instr.next
        simp only
        rw [rb (run_getObj hh (by simp))]
        simp only [if_pos hlt2]
        rw [rb (run_setObj hh (by simp) _)]
        rfl
    | miter m since seen last =>
      obtain ⟨hb0, m', hm, hh⟩ := hor
      have e : vx = .pointer (some ⟨l.blk, 0, none⟩) := by rw [e, hb0]; rfl
      subst e
      cases m with
      | none =>
        obtain ⟨hi, hx2⟩ := (guardT_all _ _).1 hx
        clear hx
        have hi : isStr = false := by simpa using hi
        subst hi
        subst hm
        refine .val (v := .tuple #[.bool false]) hx2 ?_ ⟨_, rfl, rfl, trivial⟩ hr (Ext.refl _ _ _)
        unfold Instr.next
        simp only
        rw [rb (run_getObj hh (by simp))]
        rfl
      | some m =>
        obtain ⟨hi, hx2⟩ := (guardT_all _ _).1 hx
        clear hx
        have hi : isStr = false := by simpa using hi
        subst hi
        obtain ⟨p, hp, hx⟩ := okO_some hx2
        clear hx2
        obtain ⟨hgd, hx3⟩ := (guardT_all _ _).1 hx
        clear hx
        simp only [Bool.and_eq_true] at hgd
        have q1 : p.2 = since := Nat.eq_of_beq_eq_true hgd.1.1
        have q2 : last = since := Nat.eq_of_beq_eq_true hgd.1.2
        subst q2
        obtain ⟨lm, hlm, rfl⟩ := hm
        obtain ⟨es', h4, h5⟩ := hr.obj m _ lm (getMap_some hp) hlm
        have hold : ∀ x ∈ es'.toList, x.born < last := by
          intro x hx
          obtain ⟨i, a, ha, hra⟩ := h5.mem' hx
          have := List.all_eq_true.1 hgd.2 a (List.mem_of_getElem? ha)
          rw [hra.2.2]
          exact (blt_iff _ _).1 this
        have hfl : LRel (EntR ν) (p.1.filter (fun e => !seen.elem e.2.2)) (leftOf es' seen.toArray).toList := by
          unfold leftOf
          rw [Array.toList_filter]
          exact h5.filter fun a b hab => by
            rw [hab.2.2]
            simp
        rcases run_next_at (P := P) w ty l.blk lm.blk last last seen.toArray es' p.2 hh h4 hold (Nat.le_refl _) with ⟨hz, hrun⟩ | ⟨e, he, w1, hw1, hrun⟩
        · have hnil : p.1.filter (fun e => !seen.elem e.2.2) = [] := by
            have := hfl.length
            have e3 : (leftOf es' seen.toArray).toList.length = 0 := by rw [Array.length_toList]; exact hz
            rw [e3] at this
            exact List.eq_nil_of_length_eq_zero this
          rw [hnil] at hx3
          exact .val (v := .tuple #[.bool false]) hx3 hrun ⟨_, rfl, rfl, trivial⟩ hr (Ext.refl _ _ _)
        · obtain ⟨i, a, ha, hra⟩ := hfl.mem' he
          cases hfil : p.1.filter (fun e => !seen.elem e.2.2) with
          | nil => rw [hfil] at ha; cases ha
          | cons x xs =>
            rw [hfil] at hx3 ha
            have hi : i < Nat.succ xs.length := by
              have := (List.getElem?_eq_some_iff.1 ha).1
              simpa using this
            have hx := hx3 i hi
            obtain ⟨a', ha', hx⟩ := okO_some hx
            rw [ha] at ha'
            cases ha'
            have hr1 : HR K B w0 ν h w1 := by
              rcases hw1 with rfl | rfl
              · exact hr
              · exact hr.same rfl ⟨rfl, rfl, rfl⟩
            have he1 : Ext ν h w ν h w1 := by
              rcases hw1 with rfl | rfl
              · exact Ext.refl _ _ _
              · exact Ext.same rfl
            have hh1 : w1.heap = w.heap := by rcases hw1 with rfl | rfl <;> rfl
            obtain ⟨g1, g2⟩ := hr1.putObj (o' := .miter (some m) last (seen ++ [a.2.2]) last) hg hl rfl rfl (ob := .mapIter (some lm.blk) last (seen.toArray.push e.born) p.2)
              ⟨hb0, some lm.blk, ⟨lm, hlm, rfl⟩, by rw [set_here (by rw [hh1]; exact hlt), q1, hra.2.2]; simp⟩
            exact .val (v := .tuple #[.bool true, e.key, e.val]) hx hrun ⟨_, rfl, rfl, hra.1, hra.2.1, trivial⟩ g1 (he1.trans hr.dom g2)
    | _ => exact hx.elim

theorem entry_sound (hr : HR K B w0 ν h w) {Q : X × H → Prop} {b : Nat} {vx : Value} (hv : VR ν (.ptr b 0) vx)
    (hx : (entryOp h b).all Q) : Does K B w0 P ν h w Q (do pure (.value (← Instr.entry vx))) := by
  unfold entryOp at hx
  obtain ⟨l, hl, e⟩ := hv
  cases hg : h.get b with
  | none => rw [hg] at hx; exact hx.elim
  | some o =>
    have hor := hr.obj b o l hg hl
    rw [hg] at hx
    cases o with
    | miter m since seen last =>
      cases m with
      | none => exact hx.elim
      | some m =>
        obtain ⟨hb0, m', hm, hh⟩ := hor
        have e : vx = .pointer (some ⟨l.blk, 0, none⟩) := by rw [e, hb0]; rfl
        subst e
        obtain ⟨p, hp, hx⟩ := okO_some hx
        obtain ⟨hgd, hx⟩ := (guardT_all _ _).1 hx
        simp only [Bool.and_eq_true] at hgd
        have q1 : p.2 = last := Nat.eq_of_beq_eq_true hgd.1
        obtain ⟨e, he, hx⟩ := okO_some hx
        obtain ⟨lm, hlm, rfl⟩ := hm
        obtain ⟨es', h4, h5⟩ := hr.obj m _ lm (getMap_some hp) hlm
        have hlast : seen.getLast? = some e.2.2 := by
          have := List.find?_some he
          simpa using (beq_iff_eq.1 this).symm
        have hb : seen.toArray.back? = some e.2.2 := by simpa using hlast
        obtain ⟨e', he', hre⟩ := h5.find (q := fun x => x.born == e.2.2) (fun a b hab => by
          rw [hlast, hab.2.2]
          simp) he
        refine .val (v := .tuple #[e'.key, e'.val]) hx ?_ ⟨_, rfl, hre.1, hre.2.1, trivial⟩ hr (Ext.refl _ _ _)
        unfold Instr.entry
        simp only
        rw [rb (run_getObj hh (by simp))]
        simp only [hb]
        rw [rb (run_getObj h4 (by simp))]
        simp only [q1, bne_self_eq_false, Bool.false_eq_true, if_false]
        rw [Array.find?_toList] at he'
        rw [he']
        rfl
    | _ => exact hx.elim

/-! ### Slices grown, copied, cleared -/
include hc in
theorem copy_sound (hr : HR K B w0 ν h w) {Q : X × H → Prop} {t e : Nat} {ts : List TypeId} {ty : TypeId} {d s : V} {vd vs : Value} (hte : elemT c t = some e) (hd : VR ν d vd) (hs : VR ν s vs)
    (hx : (copyOp c h e d s).all Q) : Does K B w0 P ν h w Q (do pure (.value (← Builtin.copy_ ⟨t :: ts⟩ ty ⟨[vd, vs]⟩))) := by
  unfold copyOp at hx
  obtain ⟨ei, hei, hx⟩ := okO_some hx
  obtain ⟨dl, hdl, hx⟩ := okO_some hx
  obtain ⟨sl, hsl, hx⟩ := okO_some hx
  obtain ⟨cs, hcs, hQ⟩ := okO_some hx
  clear hx
  have hu := elemT_some hc hte
  obtain ⟨dd, inf, z, ti⟩ := tiok hc hei
  obtain ⟨arr, h1, h2⟩ := hr.firstCells (P := P) hs hsl (Nat.min_le_left sl dl) hcs
  have hlen := lenOf_run (P := P) (w := w) hs hsl
  have hpre : ∀ (base : Option Addr) (cap : Nat), (Builtin.copy_ ⟨t :: ts⟩ ty ⟨[.slice base dl cap, vs]⟩).run P w =
      (do if let some a := base then storeCells a arr.toList
          pure (goInt (Nat.min sl dl)) : Sem Value).run P w := by
    intro base cap
    unfold Builtin.copy_
    simp only [List.getElem?_toArray, List.getElem?_cons_zero, List.getElem?_cons_succ]
    rw [rb (run_underlying hu w)]
    simp only
    rw [rb hlen, rb (ti.run_size w), rb (h1 w rfl)]
    cases base <;> rfl
  cases d with
  | nils =>
    cases hdl
    have e0 : vd = .slice none 0 0 := hd
    subst e0
    refine .val (v := goInt 0) hQ ?_ rfl hr (Ext.refl _ _ _)
    rw [hpre]
    simp
  | slice b o len cap opn =>
    cases hdl
    obtain ⟨l, a, cap', hl, rfl, hle, ha, hopn⟩ := hd
    rcases (bif_all _ _ _).1 hQ with ⟨h0, hQ⟩ | ⟨h0, hQ⟩
    · have h0 : Nat.min sl dl = 0 := Nat.eq_of_beq_eq_true h0
      refine .val (v := goInt 0) hQ ?_ rfl hr (Ext.refl _ _ _)
      rw [hpre]
      have : arr.toList = [] := by
        have e1 := h2.length
        rw [h0] at hcs
        have : cs = [] := by
          cases s with
          | nils => cases hcs; rfl
          | slice b o len cap opn =>
            simp only [Abs.firstCells, Option.bind_eq_some_iff] at hcs
            obtain ⟨cs0, _, h4⟩ := hcs
            obtain ⟨_, rfl⟩ := sub_some h4
            simp
          | str s => cases hcs; rfl
          | _ => cases hcs
        rw [this] at e1
        exact List.eq_nil_of_length_eq_zero e1.symm
      rw [this, h0]
      rfl
    · have h0 : Nat.min sl dl ≠ 0 := fun e => by rw [e] at h0; cases h0
      obtain ⟨h', hp, hQ⟩ := okO_some hQ
      have hpos : 0 < cap' := by
        have := Nat.min_le_right sl dl
        have : 0 < Nat.min sl dl := Nat.pos_of_ne_zero h0
        have := Nat.min_le_right sl dl
        show 0 < cap'
        have e3 : Nat.min sl dl ≤ dl := Nat.min_le_right sl dl
        omega
      obtain rfl := ha.resolve_left (by omega)
      obtain ⟨w', g1, g2, g3⟩ : ∃ w', (storeCells ⟨l.blk, l.base + o, none⟩ arr.toList).run P w = .ok () w' ∧ HR K B w0 ν h' w' ∧ Ext ν h w ν h' w' := by
        cases hb : Nat.beq opn 0 with
        | true => rw [hb] at hp; exact hr.store (P := P) hp hl h2
        | false =>
          rw [hb] at hp
          simp only [cond_false] at hp
          cases hb2 : (Nat.beq opn ei.size && Nat.beq cs.length (Nat.min sl dl * ei.size)) with
          | false => rw [hb2] at hp; cases hp
          | true =>
            rw [hb2] at hp
            simp only [Bool.and_eq_true] at hb2
            have e1 := Nat.eq_of_beq_eq_true hb2.1
            have e2 := Nat.eq_of_beq_eq_true hb2.2
            rw [if_neg (fun e => by rw [e] at hb; cases hb)] at hopn
            refine hr.storeOver (P := P) hp hl h2 ?_
            rw [e2, ← hopn.2, e1]
            have : Nat.min sl dl * ei.size ≤ cap' * ei.size := Nat.mul_le_mul_right _ (Nat.le_trans (Nat.min_le_right sl dl) hle)
            omega
      refine .val (v := goInt (Nat.min sl dl)) hQ ?_ rfl g2 g3
      rw [hpre]
      simp only
      rw [rb g1]
      rfl
  | _ => exact hQ.elim

include hc in
theorem clear_sound (hr : HR K B w0 ν h w) {Q : X × H → Prop} {t e : Nat} {ts : List TypeId} {ty : TypeId} {s : V} {vs : Value} (hte : elemT c t = some e) (hs : VR ν s vs)
    (hx : (clearOp c h e s).all Q) : Does K B w0 P ν h w Q (do pure (.value (← Builtin.clear_ ⟨t :: ts⟩ ty ⟨[vs]⟩))) := by
  have hu := elemT_some hc hte
  unfold clearOp at hx
  cases s with
  | nils =>
    have e0 : vs = .slice none 0 0 := hs
    subst e0
    refine .val (v := .tuple #[]) hx ?_ (undef_XR _) hr (Ext.refl _ _ _)
    unfold Builtin.clear_
    simp only [List.getElem?_toArray, List.getElem?_cons_zero]
    rw [rb (run_underlying hu w)]
    rfl
  | slice b o n cap opn =>
    obtain ⟨ei, hei, hx⟩ := okO_some hx
    obtain ⟨dd, inf, z, ti⟩ := tiok hc hei
    obtain ⟨l, a, cap', hl, rfl, hle, ha, _⟩ := hs
    rcases (bif_all _ _ _).1 hx with ⟨h0, hQ⟩ | ⟨h0, hQ⟩
    · have h0 : n = 0 := Nat.eq_of_beq_eq_true h0
      subst h0
      refine .val (v := .tuple #[]) hQ ?_ (undef_XR _) hr (Ext.refl _ _ _)
      unfold Builtin.clear_
      simp only [List.getElem?_toArray, List.getElem?_cons_zero]
      rw [rb (run_underlying hu w)]
      rfl
    · have h0 : n ≠ 0 := fun e => by rw [e] at h0; cases h0
      obtain ⟨h', hp, hQ⟩ := okO_some hQ
      obtain rfl := ha.resolve_left (by omega)
      have hz := zeroCells_R (ti.zeroR ν) n
      obtain ⟨w', g1, g2, g3⟩ := hr.store (P := P) hp hl hz
      refine .val (v := .tuple #[]) hQ ?_ (undef_XR _) g2 g3
      unfold Builtin.clear_
      simp only [List.getElem?_toArray, List.getElem?_cons_zero]
      rw [rb (run_underlying hu w)]
      cases n with
      | zero => exact absurd rfl h0
      | succ n =>
        simp only
        rw [rb (ti.run_zero w), rb g1]
        rfl
  | _ => exact hx.elim
end
end Go.Abs
