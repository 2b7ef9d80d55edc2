/- The theorem on an operation that is no call of a function. -/
import Derived.Test.YtadhbmnpokmgcaaGreatDoorA17
namespace Go.Abs
open Go Go.RowKit

def isCall : Op → Bool
  | .call c => match c.callee with
    | .builtin _ => false
    | _ => true
  | _ => false

section
variable {K : CodeP} {B : Nat} {w0 w : World} {ν : Ren} {h : H} {P : Program} {c : Ctx} (hc : CtxOk P c)

theorem Gives.does (hr : HR K B w0 ν h w) {Q : X → Prop} {R : X × H → Prop} {s : Sem Next} (hg : Gives P ν w Q s) (hQ : ∀ x, Q x → R (x, h)) : Does K B w0 P ν h w R s := by
  obtain ⟨x, v, h1, h2, h3⟩ := hg
  exact ⟨x, h, .value v, ν, w, hQ x h1, h2, h3, hr, Ext.refl _ _ _⟩

theorem Laid.lay (hr : HR K B w0 ν h w) {x : V × O} {v : Value} {w' : World} {tot : Nat} (hl : Laid K ν w h.next x v w' tot) :
    VR (ren ν h.next ⟨w.heap.size, 0, tot⟩) x.1 v ∧ HR K B w0 (ren ν h.next ⟨w.heap.size, 0, tot⟩) (h.new x.2) w' ∧ Ext ν h w (ren ν h.next ⟨w.heap.size, 0, tot⟩) (h.new x.2) w' := by
  obtain ⟨h1, h2⟩ := hl.val _ (ren_le hr.free) (ren_self _ _ _)
  exact ⟨h1, hr.lay rfl hl.hold (by rw [hl.size]; omega) hl.rest h2⟩

include hc in
theorem builtin_sound (hr : HR K B w0 ν h w) {Q : X × H → Prop} {b : Builtin} {args : List Y} {ts : List Nat} {vs : List Value} {ty : TypeId} {cs : Array Bool} (hv : LRel (YR ν) args vs)
    (hx : (builtinOp c h b args ts).all Q) : Does K B w0 P ν h w Q (builtin b ⟨ts⟩ ty cs ⟨vs⟩) := by
  unfold builtinOp at hx
  split at hx
  · rename_i s x t u
    obtain ⟨e, hte, hx⟩ := okO_some hx
    match vs, hv with
    | [v1, v2], hv =>
      rcases (bif_all _ _ _).1 hx with ⟨hi, hQ⟩ | ⟨hi, hQ⟩
      · exact made_sound hc hr hte hi hv.1 hv.2.1 hQ
      · obtain ⟨hg, hQ⟩ := (guardT_all _ _).1 hQ
        exact append_sound hc hr hte hg hv.1 hv.2.1 hQ
    | [], hv => exact hv.elim
    | [_], hv => exact hv.2.elim
    | _ :: _ :: _ :: _, hv => exact hv.2.2.elim
  · rename_i d s t ts
    obtain ⟨e, hte, hx⟩ := okO_some hx
    match vs, hv with
    | [v1, v2], hv => exact copy_sound hc hr hte hv.1 hv.2.1 hx
    | [], hv => exact hv.elim
    | [_], hv => exact hv.2.elim
    | _ :: _ :: _ :: _, hv => exact hv.2.2.elim
  · rename_i m k t ts
    obtain ⟨h', hd, hx⟩ := okO_some hx
    match vs, hv with
    | [v1, v2], hv =>
      obtain ⟨w', h1, h2, h3⟩ := hr.delete (ts := ts) (ty := ty) hc hd hv.1 hv.2.1
      exact .val hx h1 (undef_XR _) h2 h3
    | [], hv => exact hv.elim
    | [_], hv => exact hv.2.elim
    | _ :: _ :: _ :: _, hv => exact hv.2.2.elim
  · rename_i s t ts
    obtain ⟨e, hte, hx⟩ := okO_some hx
    match vs, hv with
    | [v1], hv => exact clear_sound hc hr hte hv.1 hx
    | [], hv => exact hv.elim
    | _ :: _ :: _, hv => exact hv.2.elim
  · exact hx.elim

include hc in
theorem does_sound (hr : HR K B w0 ν h w) {r : Rec} {env : Env} {a : Act} {o : Oper} {Q : X × H → Prop} (he : EvR ν env a o.op.operands.toList) (hn : isCall o.op = false) (hx : (doesOp c r env h o.op).all Q) :
    Does K B w0 P ν h w Q (execOp a.eval o) := by
  obtain ⟨dst, op, type, pos, after, guard⟩ := o
  simp only at he hn hx
  cases op with
  | store t p x =>
    obtain ⟨v, hp, hx⟩ := (X.kv_all _ _ _).1 hx
    cases v with
    | ptr b off =>
      obtain ⟨y, hy, hx⟩ := (X.k_all _ _ _).1 hx
      obtain ⟨i, hi, hx⟩ := okO_some hx
      obtain ⟨hg, hx⟩ := (guardT_all _ _).1 hx
      obtain ⟨h', hpc, hQ⟩ := okO_some hx
      obtain ⟨d, inf, z, ti⟩ := tiok hc hi
      obtain ⟨l, hl, e⟩ := (he p (by simp [Op.operands])).v hp
      have hyr := (he x (by simp [Op.operands])).yy hy
      obtain ⟨w', h1, h2, h3⟩ := hr.store (P := P) hpc hl hyr.cells
      refine .unit hQ ?_ h2 h3
      have hlen := hyr.cells.length
      have hsz := Nat.eq_of_beq_eq_true hg
      have e9 : (a.eval x).cells.toList.length = (a.eval x).cells.size := by simp
      unfold Instr.storeAt
      rw [e, rb (s := Instr.sureAddr (.pointer (some ⟨l.blk, l.base + off, none⟩))) (a := ⟨l.blk, l.base + off, none⟩) (w1 := w) rfl]
      unfold storeVar
      rw [rb (ti.run_size w), if_neg (fun hq => hq (e9.symm.trans (hlen.symm.trans hsz)))]
      exact h1
    | _ => exact hx.elim
  | mapUpdate t m k x =>
    obtain ⟨mv, hm, hx⟩ := (X.kv_all _ _ _).1 hx
    obtain ⟨ky, hk, hx⟩ := (X.k_all _ _ _).1 hx
    obtain ⟨xy, hxy, hx⟩ := (X.k_all _ _ _).1 hx
    obtain ⟨h', hu, hQ⟩ := okO_some hx
    obtain ⟨w', h1, h2, h3⟩ := hr.mapUpdate hc hu ((he m (by simp [Op.operands])).v hm) ((he k (by simp [Op.operands])).yy hk) ((he x (by simp [Op.operands])).yy hxy)
    exact .unit hQ h1 h2 h3
  | insert t m k x =>
    obtain ⟨mv, hm, hx⟩ := (X.kv_all _ _ _).1 hx
    obtain ⟨ky, hk, hx⟩ := (X.k_all _ _ _).1 hx
    obtain ⟨xy, hxy, hx⟩ := (X.k_all _ _ _).1 hx
    obtain ⟨h', hu, hQ⟩ := okO_some hx
    obtain ⟨w', h1, h2, h3⟩ := hr.mapUpdate hc hu ((he m (by simp [Op.operands])).v hm) ((he k (by simp [Op.operands])).yy hk) ((he x (by simp [Op.operands])).yy hxy)
    exact .unit hQ h1 h2 h3
  | range t x =>
    obtain ⟨v, hv, hx⟩ := (X.kv_all _ _ _).1 hx
    exact range_sound hc hr ((he x (by simp [Op.operands])).v hv) hx
  | next x isStr =>
    obtain ⟨v, hv, hx⟩ := (X.kv_all _ _ _).1 hx
    cases v with
    | ptr b off =>
      cases off with
      | zero => exact next_sound hr ((he x (by simp [Op.operands])).v hv) hx
      | succ n => exact hx.elim
    | _ => exact hx.elim
  | entry x =>
    obtain ⟨v, hv, hx⟩ := (X.kv_all _ _ _).1 hx
    cases v with
    | ptr b off =>
      cases off with
      | zero => exact entry_sound hr ((he x (by simp [Op.operands])).v hv) hx
      | succ n => exact hx.elim
    | _ => exact hx.elim
  | call c' =>
    obtain ⟨callee, args, ats⟩ := c'
    obtain ⟨args⟩ := args
    obtain ⟨ats⟩ := ats
    cases callee with
    | value f => cases hn
    | invoke f m => cases hn
    | builtin b =>
      obtain ⟨ys, hys, hx⟩ := okO_some hx
      have hl := evArgs_R _ _ hys (fun x hx => he x (by simp [Op.operands, Call.operands]; exact hx))
      obtain ⟨csx, hex⟩ := exec_builtin a.eval dst b args ⟨ats⟩ type pos after guard
      rw [hex]
      exact builtin_sound hc hr hl hx
  | _ => exact hx.elim

include hc in
theorem run_sound (hr : HR K B w0 ν h w) {r : Rec} {env : Env} {a : Act} {o : Oper} {Q : X × H → Prop} (he : EvR ν env a o.op.operands.toList) (hn : isCall o.op = false) (hx : (runOp c r env h o.op).all Q) :
    Does K B w0 P ν h w Q (execOp a.eval o) := by
  unfold runOp at hx
  cases hk : kindOf c o.op with
  | calm =>
    rw [hk] at hx
    rw [T.all_bind] at hx
    exact (calm_sound hc he hx).does hr fun x hx => hx
  | reads =>
    rw [hk] at hx
    obtain ⟨x, hx, hQ⟩ := okO_some hx
    exact (read_sound hc hr he hx).does hr fun y hy => by subst hy; exact hQ
  | lays =>
    rw [hk] at hx
    rw [T.all_bind] at hx
    obtain ⟨x, v, w', tot, hQ, h1, h2⟩ := lays_sound (K := K) (w := w) hc he hx
    obtain ⟨h3, h4, h5⟩ := h2.lay hr
    exact ⟨_, _, .value v, _, w', hQ, h1, h3, h4, h5⟩
  | does =>
    rw [hk] at hx
    exact does_sound hc hr he hn hx
end
end Go.Abs
