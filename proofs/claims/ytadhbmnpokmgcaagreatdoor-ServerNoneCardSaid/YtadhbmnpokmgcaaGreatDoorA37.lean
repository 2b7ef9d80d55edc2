/- A function whose way hangs on a row's capacity, which is open: run with the least one, and with a greater one; both ends made one. -/
import Derived.Test.YtadhbmnpokmgcaaGreatDoorA36
namespace Go.Abs
open Go Go.RowKit

section
variable {K : CodeP} {B : Nat} {w0 w w' : World} {ν : Ren} {h : H} {P : Program}

theorem HR.bump (hr : HR K B w0 ν h w) {n : Nat} (hn : h.next ≤ n) : HR K B w0 ν { h with next := n } w ∧ Ext ν h w ν { h with next := n } w :=
  ⟨⟨fun b l hl => Nat.lt_of_lt_of_le (hr.dom b l hl) hn, hr.obj, hr.sep, hr.new, hr.below, hr.size, fun b o ho => Nat.lt_of_lt_of_le (hr.wf b o ho) hn⟩,
   ⟨Ren.le_refl _, fun _ h _ => h, hn, fun _ _ _ => .inl rfl, fun _ _ _ => rfl, Nat.le_refl _, fun b l h1 h2 => (by rw [h1] at h2; cases h2), fun b o' _ hb => ⟨o', hb, rfl⟩⟩⟩

/-- A row goes on under a new name. -/
theorem HR.renameRow (hr : HR K B w0 ν h w) {b o len cap opn : Nat} {cs content : List V} {v : Value} (hg : h.get b = some (.cells cs false)) (hv : VR ν (.slice b o len cap opn) v) (hopn : opn ≠ 0)
    (hsub : Abs.sub cs o (len * opn) = some content) :
    ∃ ν', HR K B w0 ν' ((h.kill b).new (.cells content false)) w ∧ Ext ν h w ν' ((h.kill b).new (.cells content false)) w ∧ VR ν' (.slice h.next 0 len len opn) v := by
  obtain ⟨l, a, cap', hl, rfl, hle, ha, hcap⟩ := hv
  rw [if_neg hopn] at hcap
  obtain ⟨cc, t, fr, h1, h2, h3⟩ := hr.obj b _ l hg hl
  obtain ⟨h4, h5, h6⟩ := h3 rfl
  obtain ⟨hin, rfl⟩ := sub_some hsub
  have hmul : len * opn ≤ cap' * opn := Nat.mul_le_mul_right _ hle
  obtain ⟨m1, m2⟩ := hr.move (l' := ⟨l.blk, l.base + o, l.tot - o⟩) (o' := .cells ((cs.drop o).take (len * opn)) false) (w' := w) hg hl rfl rfl (fun _ _ => rfl) rfl (SameRest.refl w) (by
    refine ⟨cc, t, fr, h1, fun i y hy => ?_, fun _ => ⟨?_, ?_, fun i hi => ?_⟩⟩
    · rw [List.getElem?_take] at hy
      split at hy
      · rw [List.getElem?_drop] at hy
        obtain ⟨u, v1, v2⟩ := h2 (o + i) y hy
        exact ⟨u, by rw [← v1]; congr 1; show l.base + o + i = _; omega, v2.mono (ren_le hr.free)⟩
      · cases hy
    · simp only [List.length_take, List.length_drop]
      omega
    · show l.base + o + (l.tot - o) ≤ cc.size
      omega
    · have hi : i < l.tot - o := hi
      have := h6 (o + i) (by omega)
      show ¬ (fr.1 ≤ l.base + o + i ∧ l.base + o + i < fr.2)
      intro hh
      exact this ⟨by omega, by omega⟩)
  refine ⟨_, m1, m2, _, a, cap', ren_self _ _ _, rfl, hle, ?_, ?_⟩
  · rcases ha with ha | ha
    · exact .inl ha
    · exact .inr (by rw [ha]; rfl)
  · rw [if_neg hopn]
    exact ⟨hle, by show 0 + cap' * opn = l.tot - o; omega⟩

theorem joinRow_some {xa xb : X} {ha hb : H} {Q : X × H → Prop} (hx : (joinRow xa ha xb hb).all Q) :
    ∃ ba oa la ca pa bb ob cb csa csb d, xa = .y (.v (.slice ba oa la ca pa)) ∧ xb = .y (.v (.slice bb ob la cb pa)) ∧ ha.get ba = some (.cells csa false) ∧ hb.get bb = some (.cells csb false) ∧
      sub csa oa (la * pa) = some d ∧ sub csb ob (la * pa) = some d ∧ pa ≠ 0 ∧
      Q (.y (.v (.slice (max ha.next hb.next) 0 la la pa)), { next := Nat.succ (max ha.next hb.next), tr := (((joinTr ha.tr hb.tr).set ba none).set bb none).set (max ha.next hb.next) (some (.cells d false)) }) := by
  unfold joinRow at hx
  split at hx
  · rename_i ba oa la ca pa bb ob lb cb pb
    split at hx
    · rename_i csa csb g1 g2
      split at hx
      · rename_i da db s1 s2
        obtain ⟨hg, hQ⟩ := (guardT_all _ _).1 hx
        simp only [Bool.and_eq_true] at hg
        have e1 := Nat.eq_of_beq_eq_true hg.1.1.1
        have e2 := Nat.eq_of_beq_eq_true hg.1.1.2
        have e3 := Nat.le_of_ble_eq_true hg.1.2
        have e4 : da = db := of_decide_eq_true hg.2
        subst e1; subst e2; subst e4
        exact ⟨ba, oa, la, ca, pa, bb, ob, cb, csa, csb, da, rfl, rfl, g1, g2, s1, s2, by omega, hQ⟩
      · exact hx.elim
    · exact hx.elim
  · exact hx.elim

/-- One of the two ends, as the joined one. -/
theorem RetEnd.row {ν0 : Ren} {h0 g : H} {w0' : World} {Q : X × H → Prop} {e : Ending} {b o len cap opn n b2 : Nat} {cs d : List V} {tr : Tr O}
    (hg : g.get b = some (.cells cs false)) (hsub : sub cs o (len * opn) = some d) (hopn : opn ≠ 0) (hn : g.next ≤ n) (hdom : ∀ b l, ν0 b = some l → b < h0.next)
    (htr : ∀ k x, tr.get k = some x → k ≠ b → g.tr.get k = some x) (hb : b = b2 ∨ ∀ k x, (tr.set b2 none).get k = some x → k ≠ b)
    (hQ : Q (.y (.v (.slice n 0 len len opn)), { next := Nat.succ n, tr := (tr.set b2 none).set n (some (.cells d false)) }))
    (hR : RetEnd K B w0 ν0 h0 w0' (fun p => p = (.y (.v (.slice b o len cap opn)), g)) e w') : RetEnd K B w0 ν0 h0 w0' Q e w' := by
  cases e with
  | returned v =>
    obtain ⟨x', h', ν', e1, hx, hr, he⟩ := hR
    cases e1
    obtain ⟨k1, k2⟩ := hr.bump hn
    obtain ⟨ν2, m1, m2, m3⟩ := k1.renameRow (b := b) (o := o) (len := len) (cap := cap) (opn := opn) (cs := cs) (content := d) (v := v) hg hx hopn hsub
    refine RetEnd.tells (e := .returned v) ⟨.y (.v (.slice n 0 len len opn)), (({ next := n, tr := g.tr } : H).kill b).new (.cells d false), ν2, ⟨_, hQ, Nat.le_refl _, fun k x hk => ?_⟩, m3, m1, (he.trans hdom k2).trans hdom m2⟩
    have hk : ((tr.set b2 none).set n (some (.cells d false))).get k = some x := hk
    rw [H.get_new, H.get_kill, H.next_kill]
    rw [Tr.get_set] at hk
    show (if n = k then _ else _) = _
    split at hk
    · rename_i e; rw [if_pos e]; exact hk
    · rename_i e
      rw [if_neg e]
      have hkb : k ≠ b := by
        rcases hb with hb | hb
        · intro e2
          rw [Tr.get_set, if_pos (by rw [← hb, e2])] at hk
          cases hk
        · exact hb k x hk
      rw [if_neg (fun e2 => hkb e2.symm)]
      rw [Tr.get_set] at hk
      split at hk
      · cases hk
      · exact htr k x hk hkb
  | panicked ch => exact hR.elim
  | outgrown => exact hR.elim

theorem opt_some {α : Type} {t : T α} {a : α} (h : t.opt = some a) : t = .ret a := by
  cases t with
  | ret b => cases h; rfl
  | fail => cases h
  | ask n k => cases h

theorem fork_ok {g : FuncId} {call : List Y → H → Res} (hone : PrimOne K B w0 P g call) : PrimOne K B w0 P g (forkP call) := by
  intro m ν h w ys vs Q hr hv hx
  unfold forkP at hx
  cases hc : call ys h with
  | ret a => rw [hc] at hx; exact hone m ν h w ys vs Q hr hv (by rw [hc]; exact hx)
  | ask n k => rw [hc] at hx; exact hone m ν h w ys vs Q hr hv (by rw [hc]; exact hx)
  | fail =>
    rw [hc] at hx
    simp only at hx
    split at hx
    · rename_i b o n cap opn rest
      obtain ⟨hg, hx⟩ := (guardT_all _ _).1 hx
      simp only [Bool.and_eq_true] at hg
      have ho := Nat.le_of_ble_eq_true hg.1
      have hcn := Nat.le_of_ble_eq_true hg.2
      split at hx
      · rename_i p q hp hq
        have hp := opt_some hp
        have hq := opt_some hq
        obtain ⟨ba, oa, la, ca, pa, bb, ob, cb, csa, csb, d, e1, e2, g1, g2, s1, s2, hpa, hQ⟩ := joinRow_some hx
        obtain ⟨vs1, vr, hvs⟩ : ∃ v vr, vs.toList = v :: vr := by
          cases hl : vs.toList with
          | nil => rw [hl] at hv; exact hv.elim
          | cons v vr => exact ⟨v, vr, rfl⟩
        rw [hvs] at hv
        obtain ⟨l, a, cap', hl, rfl, hle, ha, hcap⟩ := hv.1
        rw [if_neg (by omega)] at hcap
        by_cases hroom : n + 1 ≤ cap'
        · have hv' : LRel (YR ν) (.v (.slice b o n (Nat.succ n) opn) :: rest) vs.toList := by
            rw [hvs]
            exact ⟨⟨l, a, cap', hl, rfl, hle, ha, by rw [if_neg (by omega)]; exact ⟨hroom, hcap.2⟩⟩, hv.2⟩
          have fin : ∀ e w', RetEnd K B w0 ν h w (fun r => r = q) e w' → RetEnd K B w0 ν h w Q e w' := fun e w' hR => by
            have eq : q = (.y (.v (.slice bb ob la cb pa)), q.2) := by rw [← e2]
            rw [eq] at hR
            refine RetEnd.row (tr := (joinTr p.2.tr q.2.tr).set ba none) g2 s2 hpa (Nat.le_max_right _ _) hr.dom (fun k x hk _ => ?_) (.inl rfl) hQ hR
            rw [Tr.get_set] at hk
            split at hk
            · cases hk
            · exact (joinTr_get _ _ _ _ hk).2
          rcases hone m ν h w _ vs (fun r => r = q) hr hv' (by rw [hq]; exact rfl) with ⟨h1, h2⟩ | ⟨v, w', h1, h2⟩
          · exact .inl ⟨h1, h2.mono fin⟩
          · exact .inr ⟨v, w', h1, fin _ _ h2⟩
        · have hv' : LRel (YR ν) (.v (.slice b o n n 0) :: rest) vs.toList := by
            rw [hvs]
            exact ⟨⟨l, a, cap', hl, rfl, hle, ha, by rw [if_pos rfl]; omega⟩, hv.2⟩
          have fin : ∀ e w', RetEnd K B w0 ν h w (fun r => r = p) e w' → RetEnd K B w0 ν h w Q e w' := fun e w' hR => by
            have eq : p = (.y (.v (.slice ba oa la ca pa)), p.2) := by rw [← e1]
            rw [eq] at hR
            refine RetEnd.row (tr := (joinTr p.2.tr q.2.tr).set ba none) g1 s1 hpa (Nat.le_max_left _ _) hr.dom (fun k x hk hkb => ?_) (.inr fun k x hk e => ?_) hQ hR
            · rw [Tr.get_set] at hk
              split at hk
              · cases hk
              · exact (joinTr_get _ _ _ _ hk).1
            · subst e
              rw [Tr.get_set] at hk
              split at hk
              · cases hk
              · rw [Tr.get_set, if_pos rfl] at hk
                cases hk
          rcases hone m ν h w _ vs (fun r => r = p) hr hv' (by rw [hp]; exact rfl) with ⟨h1, h2⟩ | ⟨v, w', h1, h2⟩
          · exact .inl ⟨h1, h2.mono fin⟩
          · exact .inr ⟨v, w', h1, fin _ _ h2⟩
      · exact hx.elim
    · exact hx.elim
end
end Go.Abs
