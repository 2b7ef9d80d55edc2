/- Calls: arguments, results, what is left at the end. -/
import Derived.Test.YtadhbmnpokmgcaaGreatDoorA29
import Derived.RangeFuncLeaves
namespace Go.Abs
open Go Go.RowKit

/-! ### Arguments -/
theorem mkEnv_go_get : ∀ (ys : List Y) (i : Nat) (t : Tr X) (j : Nat), (mkEnv.go ys i t).get j = if i ≤ j ∧ j < i + ys.length then (ys[j - i]?).map X.y else t.get j
  | [], i, t, j => by
    rw [mkEnv.go, if_neg (by simp only [List.length_nil]; omega)]
  | y :: ys, i, t, j => by
    rw [mkEnv.go, mkEnv_go_get ys (Nat.succ i)]
    simp only [List.length_cons]
    by_cases h1 : Nat.succ i ≤ j ∧ j < Nat.succ i + ys.length
    · rw [if_pos h1, if_pos (by omega), show j - i = (j - Nat.succ i) + 1 by omega]
      simp
    · rw [if_neg h1, Tr.get_set]
      by_cases h2 : i = j
      · subst h2
        rw [if_pos rfl, if_pos (by omega)]
        simp
      · rw [if_neg h2, if_neg (by omega)]

theorem mkEnv_R {ν : Ren} {ys : List Y} {vs : Array Value} (h : LRel (YR ν) ys vs.toList) (n : Nat) : EnvR ν (mkEnv n ys).t (mkEnv n ys).n (vs ++ Array.replicate (n - vs.size) undef) := by
  have hlen := h.length
  have e9 : vs.toList.length = vs.size := by simp
  refine ⟨?_, fun i => ?_⟩
  · show ys.length + (n - ys.length) = _
    simp; omega
  · show XR ν (((mkEnv.go ys 0 .e).get i).getD undefX) _
    rw [mkEnv_go_get]
    by_cases hi : i < ys.length
    · rw [if_pos (by omega), Nat.sub_zero]
      have hy := List.getElem?_eq_getElem hi
      obtain ⟨v, hv, hr⟩ := h.get hy
      rw [hy]
      have : (vs ++ Array.replicate (n - vs.size) undef).getD i undef = v := by
        have hi2 : i < vs.size := by omega
        rw [Array.getD_eq_getD_getElem?, Array.getElem?_append_left hi2, ← Array.getElem?_toList, hv]
        rfl
      rw [this]
      exact hr
    · rw [if_neg (by omega), Tr.get_e]
      have : (vs ++ Array.replicate (n - vs.size) undef).getD i undef = undef := by
        have hi2 : vs.size ≤ i := by omega
        rw [Array.getD_eq_getD_getElem?, Array.getElem?_append_right hi2, Array.getElem?_replicate]
        split <;> rfl
      rw [this]
      exact undef_XR ν

section
variable {K : CodeP} {B : Nat} {w0 w w' : World} {ν : Ren} {h : H} {P : Program} {c : Ctx}

/-! ### Results -/
theorem results_run (hc : CtxOk P c) (hr : HR K B w0 ν h w) {env : Env} {tmps : Array Value} (he : EnvR ν env.t env.n tmps) {fn : Func} {ys : List Y} (hx : resultsOf c env h fn.results.toList = some ys) :
    ∃ v, (results fn tmps).run P w = .ok v w ∧ XR ν (packR ys) v := by
  have key : ∀ (rs : List ResultVar) (ys : List Y), resultsOf c env h rs = some ys →
      ∃ vs : List Value, (rs.mapM fun
        | .tmp t => pure (tmps.getD t undef)
        | .cell a t => do loadVar t (← asAddr (tmps.getD a undef)) : Sem (List Value)).run P w = .ok vs w ∧ LRel (YR ν) ys vs := by
    intro rs
    induction rs with
    | nil => intro ys hx; cases hx; exact ⟨[], rfl, trivial⟩
    | cons rv rs ih =>
      intro ys hx
      unfold resultsOf at hx
      simp only [Option.bind_eq_some_iff, Option.map_eq_some_iff] at hx
      obtain ⟨y, hy, ys', hys, rfl⟩ := hx
      obtain ⟨vs, h1, h2⟩ := ih ys' hys
      have hone : ∃ v, (match rv with
        | .tmp t => pure (tmps.getD t undef)
        | .cell a t => do loadVar t (← asAddr (tmps.getD a undef)) : Sem Value).run P w = .ok v w ∧ YR ν y v := by
        cases rv with
        | tmp t =>
          unfold resultOf at hy
          simp only at hy
          have := he.get t
          cases hg : env.get t with
          | tup l => rw [hg] at hy; cases hy
          | y y' =>
            rw [hg] at hy this
            cases hy
            exact ⟨_, rfl, this⟩
        | cell a t =>
          unfold resultOf at hy
          simp only at hy
          split at hy
          · rename_i b o hg
            have := he.get a
            obtain ⟨l, hl, e⟩ := this.v hg
            obtain ⟨v, h3, h4⟩ := hr.loadVar (P := P) hc hl hy
            refine ⟨v, ?_, h4⟩
            simp only [e]
            rw [rb (s := asAddr (.pointer (some ⟨l.blk, l.base + o, none⟩))) (a := ⟨l.blk, l.base + o, none⟩) (w1 := w) rfl]
            exact h3
          · cases hy
      obtain ⟨v, h3, h4⟩ := hone
      refine ⟨v :: vs, ?_, h4, h2⟩
      rw [List.mapM_cons, rb h3, rb h1]
      rfl
  obtain ⟨vs, h1, h2⟩ := key _ _ hx
  have hm : (fn.results.mapM fun
        | .tmp t => pure (tmps.getD t undef)
        | .cell a t => do loadVar t (← asAddr (tmps.getD a undef)) : Sem (Array Value)).run P w = .ok vs.toArray w := by
    rw [Array.mapM_eq_mapM_toList, Sem.run_map, h1]
    rfl
  have hres : (results fn tmps).run P w = (pure (if h : vs.toArray.size = 1 then vs.toArray[0] else .tuple vs.toArray) : Sem Value).run P w := by
    unfold results
    exact rb hm _
  rw [hres]
  match ys, vs, h2 with
  | [y], [v], h2 => exact ⟨v, rfl, h2.1⟩
  | [], [], _ => exact ⟨_, rfl, #[], rfl, trivial⟩
  | y :: y' :: ys, v :: v' :: vs, h2 =>
    refine ⟨.tuple (v :: v' :: vs).toArray, ?_, _, rfl, by simpa using h2⟩
    rw [dif_neg (by simp)]
    rfl
  | [y], v :: v' :: vs, h2 => exact h2.2.elim
  | y :: y' :: ys, [v], h2 => exact h2.2.elim
  | [], _ :: _, h2 => exact h2.elim
  | _ :: _, [], h2 => exact h2.elim

/-! ### What is left at the end -/
/-- A block is given up, and holds whatever. -/
theorem HR.scrap (hr : HR K B w0 ν h w) {b : Nat} {o : O} {l : Loc} (hb : h.get b = some o) (hl : ν b = some l) (hw : writable o = true)
    (hother : ∀ k, k ≠ l.blk → w'.heap[k]? = w.heap[k]?) (hsz : w'.heap.size = w.heap.size) (hs : SameRest w w') :
    HR K B w0 ν (h.kill b) w' ∧ Ext ν h w ν (h.kill b) w' := by
  have hbn := hr.new b o l hb hl hw
  constructor
  · refine ⟨hr.dom, fun x y z hx hz => ?_, fun x x' y y' z z' hne hx hx' hz hz' hwr => ?_, fun x y z hx hz hwr => ?_, ?_, by rw [hsz]; exact hr.size, fun x y hx => ?_⟩
    · rw [H.get_kill] at hx
      split at hx
      · cases hx
      · rename_i e
        have hne : z.blk ≠ l.blk := fun he => hr.sep b x o y l z e hb hx hl hz hw he.symm
        exact (hr.obj x y z hx hz).mono (Ren.le_refl _) (hother _ hne)
    · rw [H.get_kill] at hx hx'
      split at hx
      · cases hx
      · split at hx'
        · cases hx'
        · exact hr.sep x x' y y' z z' hne hx hx' hz hz' hwr
    · rw [H.get_kill] at hx
      split at hx
      · cases hx
      · exact hr.new x y z hx hz hwr
    · exact hr.below.trans ⟨hs.os, hs.tape, hs.output, by rw [hsz]; exact Nat.le_refl _, fun k hk => hother k (by omega)⟩
    · rw [H.get_kill] at hx
      split at hx
      · cases hx
      · exact hr.wf x y hx
  · refine ⟨Ren.le_refl _, fun _ h _ => h, Nat.le_refl _, fun x _ hx => ?_, fun k _ hk => hother k fun e => hk ⟨b, o, l, hb, hl, hw, e.symm⟩, by rw [hsz]; exact Nat.le_refl _, fun x y h1 h2 => (by rw [h1] at h2; cases h2), fun x y _ hx => ?_⟩
    · left
      rw [H.get_kill]
      split
      · rename_i e; subst e; rw [hl] at hx; cases hx
      · rfl
    · rw [H.get_kill] at hx
      split at hx
      · cases hx
      · exact ⟨y, hx, rfl⟩

theorem shut_cells {h' : H} : ∀ {bs : List Nat} {h : H}, shutMarks h bs = some h' → ∀ b, getCells h' b = getCells h b
  | [], h, hs, b => by cases hs; rfl
  | x :: bs, h, hs, b => by
    unfold shutMarks at hs
    split at hs
    · rename_i hg
      rw [shut_cells hs b]
      unfold getCells
      rw [H.get_kill]
      by_cases e : x = b
      · subst e; rw [if_pos rfl, hg]
      · rw [if_neg e]
    · cases hs

theorem results_shut {env : Env} {h' : H} {bs : List Nat} (hs : shutMarks h bs = some h') : ∀ rs : List ResultVar, resultsOf c env h' rs = resultsOf c env h rs
  | [] => rfl
  | r :: rs => by
    unfold resultsOf
    rw [results_shut hs rs]
    have : resultOf c env h' r = resultOf c env h r := by
      cases r with
      | tmp t => rfl
      | cell a t =>
        unfold resultOf
        simp only
        split
        · simp only [loadY, shut_cells hs]
        · rfl
    rw [this]

/-- The blocks of deferred calls are shut one by one. -/
theorem leaves_sound {F : Fence} {nn : Nat} {fn : Func} {tmps : Array Value} {R : Ending → World → Prop} {h' : H} :
    ∀ (bs : List Nat) (ds : List Deferred) (h : H) (w : World), MarksR ν bs ds → HR K B w0 ν h w → shutMarks h bs = some h' →
      (∀ w', HR K B w0 ν h' w' → Ext ν h w ν h' w' → ∃ v, (results fn tmps).run P w' = .ok v w' ∧ R (.returned v) w') → LeavesInM F nn P fn tmps R ds .returning w
  | [], [], h, w, _, hr, hs, fin => by
    cases hs
    exact fin w hr (Ext.refl _ _ _)
  | b :: bs, d :: ds, h, w, hm, hr, hs, fin => by
    unfold shutMarks at hs
    split at hs
    · rename_i hg
      obtain ⟨⟨l, hl, rfl⟩, hm⟩ := hm
      have hh : w.heap[l.blk]? = some (.deferred (some [])) := hr.obj b _ l hg hl
      have hlt := hr.lt hg hl
      obtain ⟨k1, k2⟩ := hr.scrap (w' := { w with heap := w.heap.setIfInBounds l.blk (.deferred none) }) hg hl rfl (fun k hk => by
        show (w.heap.setIfInBounds l.blk _)[k]? = _
        rw [Array.getElem?_setIfInBounds, if_neg (fun e => hk e.symm)]) (by simp) ⟨rfl, rfl, rfl⟩
      refine ⟨by simp, .inl ⟨l.blk, { w with heap := w.heap.setIfInBounds l.blk (.deferred none) }, rfl, ?_, ?_⟩⟩
      · unfold Instr.takeDeferred
        rw [rb (run_getObj hh (by simp))]
        simp only
        rw [rb (run_setObj hh (by simp) _)]
        rfl
      · exact leaves_sound bs ds (h.kill b) _ hm k1 hs fun w' q1 q2 => fin w' q1 (k2.trans hr.dom q2)
    · cases hs
  | [], _ :: _, _, _, hm, _, _, _ => hm.elim
  | _ :: _, [], _, _, hm, _, _, _ => hm.elim
end
end Go.Abs
