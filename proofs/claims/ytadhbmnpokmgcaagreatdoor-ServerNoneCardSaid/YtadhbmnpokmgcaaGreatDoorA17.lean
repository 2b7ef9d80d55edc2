/- The theorem on append. -/
import Derived.Test.YtadhbmnpokmgcaaGreatDoorA16
import Derived.Deep.AppendSrc
import Derived.Lib.AppendZerosOnto
namespace Go.Abs
open Go Go.RowKit

section
variable {K : CodeP} {B : Nat} {w0 w : World} {ν : Ren} {h : H} {P : Program} {c : Ctx} (hc : CtxOk P c)

theorem sub_length {cs r : List V} {o n : Nat} (h : sub cs o n = some r) : r.length = n := by
  obtain ⟨hle, rfl⟩ := sub_some h
  simp; omega

include hc in
theorem isSeqT_some {t : Nat} (h : isSeqT c t = true) : (∃ e', P.underlying t = some (.slice e')) ∨ P.underlying t = some .string := by
  unfold isSeqT at h
  cases ht : c.ti.get t with
  | none => rw [ht] at h; cases h
  | some i =>
    rw [ht] at h
    simp only at h
    obtain ⟨d, _, _, ti⟩ := tiok hc ht
    cases hd : i.d with
    | slice e => exact .inl ⟨e, by rw [ti.und, ti.desc_slice hd]⟩
    | str => exact .inr (by rw [ti.und, ti.desc_str hd])
    | _ => rw [hd] at h; cases h

/-- A new block, of cells told and of more that are not. -/
theorem HR.layRow (hr : HR K B w0 ν h w) {cs : List V} {news rest : List Value} (hv : LRel (VR ν) cs news) (e : TypeId) (row : Array Value) (hrow : row.toList = news ++ rest) {w' : World}
    (hw : w' = w.drew.alloc (.cells row e)) :
    HR K B w0 (ren ν h.next ⟨w.heap.size, 0, row.size⟩) (h.new (.cells cs false)) w' ∧ Ext ν h w (ren ν h.next ⟨w.heap.size, 0, row.size⟩) (h.new (.cells cs false)) w' := by
  subst hw
  have hh : (w.drew.alloc (.cells row e)).heap = w.heap.push (.cells row e) := rfl
  refine hr.lay rfl (fun k hk => ?_) (by rw [hh]; simp) ⟨rfl, rfl, rfl⟩ ⟨row, e, (0, 0), ?_, fun i x hx => ?_, fun _ => ⟨?_, by simp, fun i _ hi => by simp at hi⟩⟩
  · rw [hh, Array.getElem?_push, if_neg (by omega)]
  · rw [hh]; simp
  · obtain ⟨v, h1, h2⟩ := hv.get hx
    refine ⟨v, ?_, h2.mono (ren_le hr.free)⟩
    rw [Nat.zero_add, ← Array.getElem?_toList, hrow]
    exact (List.getElem?_append_left (List.getElem?_eq_some_iff.1 h1).1).trans h1
  · have e1 := hv.length
    have e2 : row.toList.length = news.length + rest.length := by rw [hrow]; simp
    rw [Array.length_toList] at e2
    show cs.length ≤ row.size
    omega

theorem isRW_some {b : Nat} (h1 : isRW h b = true) : ∃ cs, h.get b = some (.cells cs false) := by
  unfold isRW at h1
  split at h1
  · rename_i cs hg; exact ⟨cs, hg⟩
  · cases h1

/-- What is appended: how the operation runs. -/
structure SrcOk (P : Program) (t u ty e : TypeId) (inf : TypeInfo) (z vx : Value) (n : Nat) (news : List Value) (w : World) : Prop where
  none : n = 0 → (Builtin.append_ ⟨[t, u]⟩ ty ⟨[.slice none 0 0, vx]⟩).run P w = .ok (.slice none 0 0) w
  room : ∀ a sLen sCap w1, sLen + n ≤ sCap → (storeCells (Addr.add a (sLen * inf.size)) news).run P w = .ok () w1 → (Builtin.append_ ⟨[t, u]⟩ ty ⟨[.slice (some a) sLen sCap, vx]⟩).run P w = .ok (.slice (some a) (sLen + n) sCap) w1
  grow : ∀ base sLen sCap (olds : List Value), (Builtin.firstCells inf.size sLen (.slice base sLen sCap)).run P w.drew = .ok olds.toArray w.drew → sCap < sLen + n → (sLen + n) * inf.bytes ≤ 140737488355328 → sLen + n ≤ 140737488355328 → 1 ≤ inf.size →
    (Builtin.append_ ⟨[t, u]⟩ ty ⟨[.slice base sLen sCap, vx]⟩).run P w = .ok (.slice (some ⟨w.heap.size, 0, Option.none⟩) (sLen + n) (grownCap w (sLen + n) sCap e))
        (w.drew.alloc (.cells ((olds ++ news).toArray ++ Builtin.zeroCells z.cells (grownCap w (sLen + n) sCap e - (sLen + n))) e))

theorem appendTo_sound (hr : HR K B w0 ν h w) {Q : X × H → Prop} {t u e : Nat} {ty : TypeId} {s : V} {vs vx : Value} {ei : TI} {dd : TypeDesc} {inf : TypeInfo} {z : Value} (ti : TIok P e ei dd inf z)
    {n : Nat} {new : List V} {arr : Array Value} (h2 : LRel (VR ν) new arr.toList) (hlen : new.length = n * ei.size) (src : SrcOk P t u ty e inf z vx n arr.toList w) (hs : VR ν s vs)
    (hQ : (appendTo h ei s n new).all Q) : Does K B w0 P ν h w Q (do pure (.value (← Builtin.append_ ⟨[t, u]⟩ ty ⟨[vs, vx]⟩))) := by
  have hsz : ei.size = inf.size := by rw [ti.eq]
  have hby : ei.bytes = inf.bytes := by rw [ti.eq]
  have hal : arr.toList.length = n * ei.size := by rw [← h2.length, hlen]
  /- A new row. -/
  have grow : ∀ (base : Option Addr) (sLen sCap : Nat) (old : List V) (olds : List Value), vs = .slice base sLen sCap → LRel (VR ν) old olds → olds.length = sLen * ei.size →
      ((Builtin.firstCells inf.size sLen (.slice base sLen sCap)).run P w.drew = .ok olds.toArray w.drew) → sCap < sLen + n → (sLen + n) * ei.bytes ≤ maxGrow → 1 ≤ ei.bytes → 1 ≤ ei.size →
      ∃ cap' row w', (Builtin.append_ ⟨[t, u]⟩ ty ⟨[vs, vx]⟩).run P w = .ok (.slice (some ⟨w.heap.size, 0, none⟩) (sLen + n) cap') w' ∧ sLen + n ≤ cap' ∧ row.size = cap' * ei.size ∧
        w' = w.drew.alloc (.cells row e) ∧ ∃ rest, row.toList = (olds ++ arr.toList) ++ rest := by
    intro base sLen sCap old olds hvs hold hol hfc hlt hb hb1 hs1
    subst hvs
    have hb2 : (sLen + n) * inf.bytes ≤ 140737488355328 := by rw [← hby]; exact hb
    have hsm : sLen + n ≤ 140737488355328 := Nat.le_trans (Nat.le_mul_of_pos_right _ (by omega)) hb2
    have hrun := src.grow base sLen sCap olds hfc hlt hb2 hsm (by omega)
    have hcap : sLen + n ≤ grownCap w (sLen + n) sCap e := by
      unfold grownCap
      simp [Question.cut]
    have hzs : z.cells.size = ei.size := by
      have := ti.zcells.2
      simpa using this
    refine ⟨_, _, _, hrun, hcap, ?_, rfl, (Builtin.zeroCells z.cells (grownCap w (sLen + n) sCap e - (sLen + n))).toList, by simp⟩
    simp only [Array.size_append, List.size_toArray, List.length_append, hol, hal, Builtin.zeroCells, Array.size_map, Array.size_range, hzs]
    rw [← Nat.add_mul, ← Nat.add_mul]
    congr 1
    omega
  cases s with
  | nils =>
    have e0 : vs = .slice none 0 0 := hs
    rcases (bif_all _ _ _).1 hQ with ⟨h0, hQ⟩ | ⟨h0, hQ⟩
    · have h0 : n = 0 := Nat.eq_of_beq_eq_true h0
      subst h0
      subst e0
      refine .val (v := .slice none 0 0) hQ ?_ rfl hr (Ext.refl _ _ _)
      exact src.none rfl
    · have h0 : n ≠ 0 := fun e => by rw [e] at h0; cases h0
      obtain ⟨hg, hQ⟩ := (guardT_all _ _).1 hQ
      simp only [Bool.and_eq_true] at hg
      obtain ⟨cap', row, w', g1, g2, g3, g4, rest, g5⟩ := grow none 0 0 [] [] e0 trivial (by simp) rfl (by omega) (by rw [Nat.zero_add]; exact Nat.le_of_ble_eq_true hg.1.1) (Nat.le_of_ble_eq_true hg.1.2) (Nat.le_of_ble_eq_true hg.2)
      rw [Nat.zero_add] at g1 g2
      obtain ⟨k1, k2⟩ := hr.layRow h2 e row (rest := rest) (by simpa using g5) g4
      have hs1 := Nat.le_of_ble_eq_true hg.2
      refine .val hQ g1 ⟨_, _, cap', ren_self _ _ _, rfl, g2, .inr rfl, ?_⟩ k1 k2
      rw [if_neg (by omega)]
      exact ⟨g2, by simp [g3]⟩
  | slice b o len cap opn =>
    obtain ⟨l, a, cap', hl, e0, hle, ha, hcap⟩ := hs
    have hge : cap ≤ cap' := by
      by_cases ho : opn = 0
      · rw [if_pos ho] at hcap; omega
      · rw [if_neg ho] at hcap; exact hcap.1
    rcases (bif_all _ _ _).1 hQ with ⟨hin, hQ⟩ | ⟨hin, hQ⟩
    · have hin := Nat.le_of_ble_eq_true hin
      rcases (bif_all _ _ _).1 hQ with ⟨h0, hQ⟩ | ⟨h0, hQ⟩
      · have h0 : n = 0 := Nat.eq_of_beq_eq_true h0
        subst h0
        refine .val hQ ?_ ⟨l, a, cap', hl, rfl, hle, ha, hcap⟩ hr (Ext.refl _ _ _)
        subst e0
        have hnil : arr.toList = [] := List.eq_nil_of_length_eq_zero (by rw [hal, Nat.zero_mul])
        exact src.room a len cap' w hle (by rw [hnil]; rfl)
      · have h0 : n ≠ 0 := fun e => by rw [e] at h0; cases h0
        obtain ⟨h', hp, hQ⟩ := okO_some hQ
        obtain rfl := ha.resolve_left (by omega)
        obtain ⟨w', hst, g2, g3⟩ := hr.store (P := P) hp hl h2
        have hroom : len + n ≤ cap' := by omega
        refine .val hQ (v := .slice (some ⟨l.blk, l.base + o, none⟩) (len + n) cap') ?_ ⟨l, _, cap', hl, rfl, hroom, .inr rfl, ?_⟩ g2 g3
        · subst e0
          rw [hsz, ← Nat.add_assoc] at hst
          exact src.room _ len cap' _ hroom (by rw [addr_add]; exact hst)
        · by_cases ho : opn = 0
          · rw [if_pos ho] at hcap ⊢; exact hcap
          · rw [if_neg ho] at hcap ⊢; exact hcap
    · obtain ⟨hg, hQ⟩ := (guardT_all _ _).1 hQ
      simp only [Bool.and_eq_true] at hg
      obtain ⟨cs, hcs, hQ⟩ := okO_some hQ
      obtain ⟨old, hold, hQ⟩ := okO_some hQ
      have g1 := Nat.le_of_ble_eq_true hg.1.1
      have g2 := Nat.le_of_ble_eq_true hg.1.2
      have g3 := Nat.le_of_ble_eq_true hg.2
      have hlt : cap < len + n := by
        rcases Nat.lt_or_ge cap (len + n) with hh | hh
        · exact hh
        · rw [Nat.ble_eq_true_of_le hh] at hin; cases hin
      have hsr : VR ν (.slice b o len cap opn) vs := ⟨l, a, cap', hl, e0, hle, ha, hcap⟩
      obtain ⟨oarr, o1, o2⟩ := hr.firstCells (P := P) (size := ei.size) (n := len) (k := len) hsr rfl (Nat.le_refl _) (by simp only [Abs.firstCells, hcs, Option.bind_some]; exact hold)
      have oal : oarr.toList.length = len * ei.size := by rw [← o2.length, sub_length hold]
      have hgrow : cap' < len + n → _ := fun hlt' => grow (some a) len cap' old oarr.toList e0 o2 oal (by rw [← hsz, ← e0]; simpa using o1 w.drew rfl) hlt' g1 g2 g3
      rcases (bif_all _ _ _).1 hQ with ⟨h0, hQ⟩ | ⟨h0, hQ⟩
      · have h0 : opn = 0 := Nat.eq_of_beq_eq_true h0
        rw [if_pos h0] at hcap
        obtain ⟨cap2, row, w', k1, k2, k3, k4, rest, k5⟩ := hgrow (by omega)
        obtain ⟨m1, m2⟩ := hr.layRow (o2.append h2) e row (rest := rest) k5 k4
        refine .val hQ k1 ⟨_, _, cap2, ren_self _ _ _, rfl, k2, .inr rfl, ?_⟩ m1 m2
        rw [if_neg (by omega)]
        exact ⟨k2, by simp [k3]⟩
      · have h0 : opn ≠ 0 := fun e => by rw [e] at h0; cases h0
        obtain ⟨hg4, hQ4⟩ := (guardT_all _ _).1 hQ
        clear hQ
        simp only [Bool.and_eq_true] at hg4
        have ho := Nat.eq_of_beq_eq_true hg4.1
        subst ho
        rw [if_neg h0] at hcap
        obtain ⟨cs', hrw⟩ := isRW_some hg4.2
        by_cases hroom : len + n ≤ cap'
        · -- The old block goes on under a new name.
          obtain rfl := ha.resolve_left (by omega)
          obtain ⟨cc, tt, fr, q1, q2, q3⟩ := hr.obj b _ l hrw hl
          obtain ⟨q4, q5, q6⟩ := q3 rfl
          have hcs' : cs' = cs := by
            have : getCells h b = some cs' := by simp [getCells, hrw]
            rw [this] at hcs; cases hcs; rfl
          subst hcs'
          have hmul : (len + n) * ei.size ≤ cap' * ei.size := Nat.mul_le_mul_right _ hroom
          rw [Nat.add_mul] at hmul
          have htot : o + cap' * ei.size = l.tot := hcap.2
          have hst := run_storeCells_cells (P := P) l.blk (l.base + o + len * ei.size) arr.toList 0 w (fun j hj => by
              have hlt2 : l.base + o + len * ei.size + 0 + j < cc.size := by omega
              simp only [World.cell?, q1]
              simp [hlt2]
              omega) (fun j hj => by
              have := q6 (o + len * ei.size + j) (by omega)
              simp only [World.frozen?, q1, Bool.and_eq_false_iff, decide_eq_false_iff_not]
              by_cases hf : fr.1 ≤ l.base + (o + len * ei.size + j)
              · right; intro hh; exact this ⟨hf, by simp at hh; omega⟩
              · left; simp; omega) h2.ones
          rw [Nat.add_zero] at hst
          obtain ⟨r1, r2, r3, r4⟩ := setCells_heap l.blk arr.toList (l.base + o + len * ei.size) w cc tt fr q1
          obtain ⟨m1, m2⟩ := hr.move (l' := ⟨l.blk, l.base + o, cap' * ei.size⟩) (o' := .cells (old ++ new) false) hrw hl rfl rfl r2 r3 r4 (by
            refine ⟨_, tt, fr, r1, fun i y hy => ?_, fun _ => ⟨?_, ?_, fun i hi => ?_⟩⟩
            · have hol := sub_length hold
              rw [setMany_get arr.toList cc _ _ (by omega)]
              by_cases hi : i < len * ei.size
              · rw [List.getElem?_append_left (by omega)] at hy
                rw [if_neg (by simp; omega)]
                obtain ⟨_, hsub⟩ := sub_some hold
                rw [hsub, List.getElem?_take, if_pos hi, List.getElem?_drop] at hy
                obtain ⟨v, v1, v2⟩ := q2 (o + i) y hy
                exact ⟨v, by rw [← v1]; congr 1; simp; omega, v2.mono (ren_le hr.free)⟩
              · rw [List.getElem?_append_right (by omega), hol] at hy
                obtain ⟨v, v1, v2⟩ := h2.get hy
                have := (List.getElem?_eq_some_iff.1 v1).1
                have e9 : arr.toList.length = arr.size := by simp
                rw [if_pos (by simp; omega)]
                exact ⟨v, by rw [← v1]; congr 1; simp; omega, v2.mono (ren_le hr.free)⟩
            · have hol := sub_length hold
              simp only [List.length_append, hol, hlen]
              exact hmul
            · rw [setMany_size]
              show l.base + o + cap' * ei.size ≤ cc.size
              omega
            · have hi : i < cap' * ei.size := hi
              have := q6 (o + i) (by omega)
              intro hh
              exact this ⟨by have := hh.1; simp at this; omega, by have := hh.2; simp at this; omega⟩)
          refine .val hQ4 (v := .slice (some ⟨l.blk, l.base + o, none⟩) (len + n) cap') ?_ ⟨_, _, cap', ren_self _ _ _, rfl, hroom, .inr rfl, ?_⟩ m1 m2
          · subst e0
            exact src.room _ len cap' _ hroom (by rw [addr_add, ← hsz]; exact hst)
          · rw [if_neg h0]
            exact ⟨hroom, by simp⟩
        · obtain ⟨cap2, row, w', k1, k2, k3, k4, rest, k5⟩ := hgrow (by omega)
          obtain ⟨m1, m2⟩ := (hr.kill b).layRow (o2.append h2) e row (rest := rest) k5 k4
          refine .val hQ4 k1 ⟨_, _, cap2, ren_self _ _ _, rfl, k2, .inr rfl, ?_⟩ m1 ((Ext.kill hl).trans hr.dom m2)
          rw [if_neg (by omega)]
          exact ⟨k2, by simp [k3]⟩
  | _ => exact hQ.elim

include hc in
theorem append_sound (hr : HR K B w0 ν h w) {Q : X × H → Prop} {t u e : Nat} {ty : TypeId} {s x : V} {vs vx : Value} (hte : elemT c t = some e) (hsu : isSeqT c u = true) (hs : VR ν s vs) (hxv : VR ν x vx)
    (hx : (appendOp c h e s x).all Q) : Does K B w0 P ν h w Q (do pure (.value (← Builtin.append_ ⟨[t, u]⟩ ty ⟨[vs, vx]⟩))) := by
  unfold appendOp at hx
  obtain ⟨ei, hei, hx⟩ := okO_some hx
  obtain ⟨n, hn, hx⟩ := okO_some hx
  obtain ⟨new, hnew, hx⟩ := okO_some hx
  obtain ⟨hlen, hQ⟩ := (guardT_all _ _).1 hx
  clear hx
  have hlen := Nat.eq_of_beq_eq_true hlen
  have hu := elemT_some hc hte
  obtain ⟨dd, inf, z, ti⟩ := tiok hc hei
  have hsz : ei.size = inf.size := by rw [ti.eq]
  obtain ⟨arr, h1, h2⟩ := hr.firstCells (P := P) hxv hn (Nat.le_refl _) hnew
  have hal : arr.toList.length = n * ei.size := by rw [← h2.length, hlen]
  have src : Src P inf.size u vx n arr.toList w := by
    refine ⟨isSeqT_some hc hsu, fun w' => lenOf_run hxv hn, ?_, ?_, by rw [← hsz]; exact hal, h2.ones⟩
    · rw [← hsz]; simpa using h1 w rfl
    · rw [← hsz]; simpa using h1 w.drew rfl
  refine appendTo_sound hr ti h2 hlen ⟨fun h0 => ?_, fun a sLen sCap w1 hroom hst => ?_, fun base sLen sCap olds hfc hlt hb2 hsm _ => ?_⟩ hs hQ
  · subst h0
    rcases src.kind with ⟨e', hk⟩ | hk <;> simp [Builtin.append_, run_underlying hu, run_underlying hk, sizeOf, typeInfo, ti.info, src.len, src.cells]
  · rcases src.kind with ⟨e', hk⟩ | hk <;> simp [Builtin.append_, run_underlying hu, run_underlying hk, sizeOf, typeInfo, ti.info, src.len, src.cells, hroom, hst]
  · exact run_append_grow_src (P := P) w t u ty e inf z hu ti.info ti.zero base sLen sCap olds hfc vx n arr.toList src hlt (by omega) (growslice_fits hlt hb2)

include hc in
theorem made_sound (hr : HR K B w0 ν h w) {Q : X × H → Prop} {t u e : Nat} {ty : TypeId} {s x : V} {vs vx : Value} (hte : elemT c t = some e) (hsu : isIntT c u = true) (hs : VR ν s vs) (hxv : VR ν x vx)
    (hx : (appendMade c h e s x).all Q) : Does K B w0 P ν h w Q (do pure (.value (← Builtin.append_ ⟨[t, u]⟩ ty ⟨[vs, vx]⟩))) := by
  unfold appendMade at hx
  obtain ⟨ei, hei, hx⟩ := okO_some hx
  obtain ⟨kq, n, rfl, hx⟩ := (V.knat_all _ _ _).1 hx
  obtain ⟨hg, hQ⟩ := (guardT_all _ _).1 hx
  clear hx
  simp only [Bool.and_eq_true] at hg
  have g1 := Nat.le_of_ble_eq_true hg.1.1.1
  have g2 : n ≤ 140737488355328 := Nat.le_of_ble_eq_true hg.1.1.2
  have g3 : n * ei.bytes ≤ 140737488355328 := Nat.le_of_ble_eq_true hg.1.2
  have g4 := Nat.le_of_ble_eq_true hg.2
  have hu := elemT_some hc hte
  have htn : ∃ kn, P.underlying u = some (.int kn) := by
    unfold isIntT at hsu
    cases ht : c.ti.get u with
    | none => rw [ht] at hsu; cases hsu
    | some i =>
      rw [ht] at hsu
      simp only at hsu
      obtain ⟨d, _, _, ti⟩ := tiok hc ht
      cases hd : i.d with
      | int k => exact ⟨k, by rw [ti.und, ti.desc_int hd]⟩
      | _ => rw [hd] at hsu; cases hsu
  obtain ⟨kn, htn⟩ := htn
  obtain ⟨dd, inf, z, ti⟩ := tiok hc hei
  have hsz : ei.size = inf.size := by rw [ti.eq]
  have hby : ei.bytes = inf.bytes := by rw [ti.eq]
  have hxv : vx = .int kq (n : Int) := hxv
  subst hxv
  have hz := zeroCells_R (ti.zeroR ν) n
  have hw : IntKind.i64.wrap (n : Int) = n := by rw [IntKind.wrap_i64]; omega
  have h48i : ¬ (281474976710656 < (n : Int) * (inf.bytes : Int)) := by
    rw [← Int.natCast_mul, ← hby]
    omega
  have hneg : ¬ ((n : Int) < 0) := by omega
  have hns : ¬ (n * inf.size = 0) := Nat.mul_ne_zero (by omega) (by omega)
  refine appendTo_sound hr ti hz (by rw [rep_length, ti.zlen]) ⟨fun h0 => by omega, fun a sLen sCap w1 hroom hst => ?_, fun base sLen sCap olds hfc hlt hb2 hsm h1 => ?_⟩ hs hQ
  · simp [Builtin.append_, run_underlying hu, run_underlying htn, sizeOf, typeInfo, zeroValue, ti.info, ti.zero, asInt, asIntOf, hw, hroom, hneg, hns, h48i, hst]
  · have := Lib.run_append_grow_zeros (P := P) w t u ty e inf z kq kn hu htn ti.info ti.zero base sLen sCap olds hfc n g1 (by omega) hlt (by omega) (by rw [← hby]; omega) (growslice_fits hlt hb2)
    have e1 : (olds ++ (Builtin.zeroCells z.cells n).toList).toArray = olds.toArray ++ Builtin.zeroCells z.cells n := by
      apply Array.ext'
      simp
    rw [e1]
    exact this
end
end Go.Abs
