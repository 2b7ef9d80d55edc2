/- The theorem on operations that lay a block. -/
import Derived.Test.YtadhbmnpokmgcaaGreatDoorA13
namespace Go.Abs
open Go Go.RowKit

/-- What an operation has laid. -/
structure Laid (K : CodeP) (ν : Ren) (w : World) (next : Nat) (x : V × O) (v : Value) (w' : World) (tot : Nat) : Prop where
  size : w'.heap.size = w.heap.size + 1
  hold : ∀ k, k < w.heap.size → w'.heap[k]? = w.heap[k]?
  rest : SameRest w w'
  val : ∀ ν', ν.le ν' → ν' next = some ⟨w.heap.size, 0, tot⟩ → VR ν' x.1 v ∧ OR K ν' ⟨w.heap.size, 0, tot⟩ w' x.2

section
variable {K : CodeP} {B : Nat} {w0 w : World} {ν : Ren} {h : H} {P : Program} {c : Ctx} (hc : CtxOk P c)

theorem run_newRow (e : TypeId) (cs : Array Value) : (newRow e cs).run P w = .ok ⟨w.heap.size, 0, none⟩ { w with heap := w.heap.push (.cells cs e (0, 0)) } := rfl
theorem run_newVar (e : TypeId) (v : Value) : (newVar e v).run P w = .ok ⟨w.heap.size, 0, none⟩ { w with heap := w.heap.push (.cells v.cells e (0, 0)) } := rfl

theorem push_size (w : World) (o : Obj) : ({ w with heap := w.heap.push o } : World).heap.size = w.heap.size + 1 := Array.size_push ..
theorem push_hold (w : World) (o : Obj) (k : Nat) (hk : k < w.heap.size) : ({ w with heap := w.heap.push o } : World).heap[k]? = w.heap[k]? := by
  show (w.heap.push o)[k]? = _
  rw [Array.getElem?_push, if_neg (by omega)]
theorem push_last (w : World) (o : Obj) : ({ w with heap := w.heap.push o } : World).heap[w.heap.size]? = some o := by
  show (w.heap.push o)[w.heap.size]? = _
  simp

/-- New cells, all of which are told. -/
theorem OR.cells_new {ν' : Ren} {cs : List V} {arr : Array Value} (hr : LRel (VR ν) cs arr.toList) (hle : ν.le ν') (w' : World) (n : Nat) (e : TypeId) (hw : w'.heap[n]? = some (.cells arr e (0, 0))) (tot : Nat) (ht : tot = arr.size) :
    OR K ν' ⟨n, 0, tot⟩ w' (.cells cs false) := by
  refine ⟨arr, e, (0, 0), hw, fun i x hx => ?_, fun _ => ⟨?_, ?_, ?_⟩⟩
  · obtain ⟨v, h1, h2⟩ := hr.get hx
    exact ⟨v, by simpa using h1, h2.mono hle⟩
  · have := hr.length
    simp at this
    simp; omega
  · simp; omega
  · intro i _ hi
    simp at hi

theorem Laid.cells {cs : List V} {arr : Array Value} (hr : LRel (VR ν) cs arr.toList) (e : TypeId) {next : Nat} {x : V} {v : Value}
    (hx : ∀ ν' : Ren, ν' next = some ⟨w.heap.size, 0, arr.size⟩ → VR ν' x v) :
    Laid K ν w next (x, .cells cs false) v { w with heap := w.heap.push (.cells arr e (0, 0)) } arr.size :=
  ⟨push_size _ _, push_hold _ _, ⟨rfl, rfl, rfl⟩, fun ν' hle hν => ⟨hx ν' hν, .cells_new hr hle _ _ e (push_last _ _) _ rfl⟩⟩

theorem rep_succ (z : List V) (n : Nat) : rep z (n + 1) = z ++ rep z n := rfl
theorem rep_length (z : List V) : ∀ n, (rep z n).length = n * z.length
  | 0 => by simp [show rep z 0 = [] from rfl]
  | n + 1 => by rw [rep_succ, List.length_append, rep_length z n, Nat.succ_mul]; omega
theorem rep_get (z : List V) : ∀ n i, i < n * z.length → (rep z n)[i]? = z[i % z.length]?
  | 0, i, h => by simp at h
  | n + 1, i, h => by
    rw [rep_succ, List.getElem?_append]
    split
    · rename_i hlt; rw [Nat.mod_eq_of_lt hlt]
    · rename_i hge
      rw [Nat.succ_mul] at h
      rw [rep_get z n (i - z.length) (by omega)]
      congr 1
      rw [Nat.mod_eq_sub_mod (a := i) (by omega)]

theorem rep_R {z : List V} {zc : Array Value} (hz : LRel (VR ν) z zc.toList) (n : Nat) : LRel (VR ν) (rep z n) ((Array.range (n * zc.size)).map fun i => zc[i % zc.size]!).toList := by
  have hl : z.length = zc.size := by have := hz.length; simpa using this
  refine LRel.of_get (by rw [rep_length, hl]; simp) fun i a b ha hb => ?_
  have hi : i < n * zc.size := by
    have := (List.getElem?_eq_some_iff.1 hb).1
    simpa using this
  have hpos : 0 < zc.size := by
    rcases Nat.eq_zero_or_pos zc.size with h0 | h0
    · rw [h0] at hi; simp at hi
    · exact h0
  rw [rep_get z n i (by rw [hl]; exact hi), hl] at ha
  have hb2 : b = zc[i % zc.size]! := by
    simp only [Array.toList_map, List.getElem?_map, Array.toList_range, List.getElem?_range hi, Option.map_some, Option.some.injEq] at hb
    exact hb.symm
  obtain ⟨v, h1, h2⟩ := hz.get ha
  have hlt : i % zc.size < zc.size := Nat.mod_lt _ hpos
  rw [hb2, getElem!_pos zc _ hlt]
  rw [Array.getElem?_toList, Array.getElem?_eq_getElem hlt] at h1
  cases h1
  exact h2

theorem zeroCells_R {z : List V} {zc : Array Value} (hz : LRel (VR ν) z zc.toList) (n : Nat) : LRel (VR ν) (rep z n) (Builtin.zeroCells zc n).toList := rep_R hz n

include hc in
theorem elemT_some {t e : Nat} (h : elemT c t = some e) : P.underlying t = some (.slice e) := by
  unfold elemT at h
  simp only [Option.bind_eq_some_iff] at h
  obtain ⟨i, hi, h⟩ := h
  obtain ⟨d, inf, z, ti⟩ := tiok hc hi
  split at h
  · rename_i e' hd
    cases h
    rw [ti.und, ti.desc_slice hd]
  · cases h

include hc in
theorem isU8_some {e : Nat} (h : isU8 c e = true) : P.underlying e = some (.int .u8) := by
  unfold isU8 at h
  cases hee : c.ti.get e with
  | none => rw [hee] at h; cases h
  | some ei =>
    rw [hee] at h
    simp only at h
    obtain ⟨d3, _, _, t3⟩ := tiok hc hee
    split at h
    · rename_i h8; rw [t3.und, t3.desc_int h8]
    · cases h

theorem push_modify {α : Type} (xs : Array α) (o : α) (f : α → α) : (xs.push o).modify xs.size f = xs.push (f o) := by
  apply Array.ext_getElem?
  intro i
  rw [Array.getElem?_modify, Array.getElem?_push, Array.getElem?_push]
  by_cases hi : i = xs.size
  · subst hi; simp
  · rw [if_neg hi, if_neg hi, if_neg (fun e => hi e.symm)]

theorem wrap_small {n : Nat} (h : n ≤ 281474976710656) : IntKind.i64.wrap (Int.ofNat n) = Int.ofNat n := by
  rw [← wrapV_eq]
  unfold wrapV
  have : Nat.blt n two63 = true := (blt_iff _ _).2 (by rw [two63_eq]; omega)
  simp only [this, cond_true]

include hc in
theorem lays_sound {env : Env} {a : Act} {o : Oper} {next : Nat} {Q : V × O → Prop} (he : EvR ν env a o.op.operands.toList) (hx : (laysOp c env next o.op).all Q) :
    ∃ x v w' tot, Q x ∧ (execOp a.eval o).run P w = .ok (.value v) w' ∧ Laid K ν w next x v w' tot := by
  obtain ⟨dst, op, type, pos, after, guard⟩ := o
  simp only at he hx
  cases op with
  | alloc t =>
    obtain ⟨i, hi, hQ⟩ := okO_some hx
    obtain ⟨d, inf, z, ti⟩ := tiok hc hi
    refine ⟨_, .pointer (some ⟨w.heap.size, 0, none⟩), _, _, hQ, ?_, .cells (ti.zeroR ν) t fun ν' hν => ⟨_, hν, rfl⟩⟩
    refine vrun ?_
    unfold Instr.alloc
    rw [rb (ti.run_zero w)]
    rfl
  | box t x =>
    obtain ⟨i, hi, hx⟩ := okO_some hx
    obtain ⟨y, hy, hQ⟩ := (X.k_all _ _ _).1 hx
    have hr := (he x (by simp [Op.operands])).yy hy
    refine ⟨_, .pointer (some ⟨w.heap.size, 0, none⟩), _, _, hQ, ?_, .cells hr.cells t fun ν' hν => ⟨_, hν, rfl⟩⟩
    exact vrun rfl
  | buildSlice t len ps =>
    obtain ⟨e, hte, hx⟩ := okO_some hx
    obtain ⟨ei, hei, hx⟩ := okO_some hx
    obtain ⟨l, hl, hx⟩ := okO_some hx
    obtain ⟨hg, hx⟩ := (guardT_all _ _).1 hx
    obtain ⟨cs, hcs, hQ⟩ := okO_some hx
    have hu := elemT_some hc hte
    obtain ⟨d, inf, z, ti⟩ := tiok hc hei
    have hle := Nat.le_of_ble_eq_true hg
    have hl' := evParts_R _ _ hl (fun x hx => he x (by simpa [Op.operands] using hx))
    have hz : LRel (VR ν) (rep ei.zero len) ((Array.range (len * ei.size)).map fun i => z.cells[i % z.cells.size]!).toList := by
      have := rep_R (ti.zeroR ν) len
      have e1 : z.cells.size = ei.size := by
        have := ti.zcells.2
        simpa using this
      rw [e1] at this ⊢
      exact this
    obtain ⟨arr, h1, h2, h3⟩ := fill_run (c := c) (d := .array len e) (fun i => some (i * ei.size, ei.size)) (by
        intro i p hp
        simp only [placeOf, hei, Option.map_some] at hp
        exact hp) l _ _ _ cs hcs hl' hz
    have hps : (ps.map fun (i, x) => (i, a.eval x)).toList = ps.toList.map fun p => (p.1, a.eval p.2) := by simp
    refine ⟨_, .slice (some ⟨w.heap.size, 0, none⟩) len len, _, _, hQ, ?_, .cells h2 e fun ν' hν => ⟨_, _, len, hν, rfl, Nat.le_refl _, .inr rfl, rfl⟩⟩
    refine vrun ?_
    unfold Instr.buildSlice
    rw [rb (run_underlying hu w)]
    simp only
    rw [rb (ti.run_size w), if_neg (by omega)]
    by_cases h0 : len * ei.size = 0
    · rw [if_pos h0]
      have e0 : ((Array.range (len * ei.size)).map fun i => (#[] : Array Value)[i % (#[] : Array Value).size]!) = (Array.range (len * ei.size)).map fun i => z.cells[i % z.cells.size]! := by
        rw [h0]; simp
      simp only [Sem.run_bind, Sem.run_pure, Result.andThen_ok, e0]
      rw [hps, h1]
      rfl
    · rw [if_neg h0]
      simp only [Sem.run_bind, ti.run_zero w, Sem.run_pure, Result.andThen_ok]
      rw [hps, h1]
      rfl
  | makeMap t r =>
    cases r with
    | some r => exact hx.elim
    | none =>
      obtain ⟨i, hi, hQ⟩ := okO_some hx
      refine ⟨_, .map (some w.heap.size), _, 0, hQ, vrun rfl, push_size _ _, push_hold _ _, ⟨rfl, rfl, rfl⟩, fun ν' hle hν => ⟨⟨_, hν, rfl⟩, #[], push_last _ _, trivial⟩⟩
  | makeSlice t l m =>
    obtain ⟨e, hte, hx⟩ := okO_some hx
    obtain ⟨ei, hei, hx⟩ := okO_some hx
    obtain ⟨lv, hlv, hx⟩ := (X.kv_all _ _ _).1 hx
    obtain ⟨k1, ln, rfl, hx⟩ := (V.knat_all _ _ _).1 hx
    obtain ⟨mv, hmv, hx⟩ := (X.kv_all _ _ _).1 hx
    obtain ⟨k2, mn, rfl, hx⟩ := (V.knat_all _ _ _).1 hx
    obtain ⟨hg, hQ⟩ := (guardT_all _ _).1 hx
    simp only [Bool.and_eq_true] at hg
    have g1 := Nat.le_of_ble_eq_true hg.1.1
    have g2 := Nat.le_of_ble_eq_true hg.1.2
    have g3 := Nat.le_of_ble_eq_true hg.2
    have hu := elemT_some hc hte
    obtain ⟨d, inf, z, ti⟩ := tiok hc hei
    have e1 : z.cells.size = ei.size := by
      have := ti.zcells.2
      simpa using this
    have hz := rep_R (ti.zeroR ν) mn
    rw [e1] at hz
    have hb : inf.bytes = ei.bytes := by rw [ti.eq]
    have r1 : a.eval l = .int k1 (.ofNat ln) := (he l (by simp [Op.operands])).v hlv
    have r2 : a.eval m = .int k2 (.ofNat mn) := (he m (by simp [Op.operands])).v hmv
    refine ⟨_, .slice (some ⟨w.heap.size, 0, none⟩) ln mn, _, _, hQ, ?_, .cells hz e fun ν' hν => ⟨_, _, mn, hν, rfl, g1, .inr rfl, rfl⟩⟩
    refine vrun ?_
    have w1 := wrap_small (n := ln) (by omega)
    have w2 := wrap_small g3
    unfold Instr.makeSlice
    rw [rb (run_underlying hu w)]
    simp only
    rw [r1, r2, rb (s := asInt (.int k1 (.ofNat ln))) (a := Int.ofNat ln) (w1 := w) rfl, rb (s := asInt (.int k2 (.ofNat mn))) (a := Int.ofNat mn) (w1 := w) rfl, rb (ti.run_info w)]
    simp only [w1, w2, hb]
    have c1 : ¬ ((decide (Int.ofNat mn < 0) || decide (↑ei.bytes * Int.ofNat mn > 2 ^ 48)) = true) := by
      simp only [Bool.or_eq_true, decide_eq_true_eq, not_or]
      refine ⟨by simp, ?_⟩
      have : (↑ei.bytes * Int.ofNat mn : Int) = ↑(ei.bytes * mn) := by simp
      rw [this]; omega
    have c2 : ¬ ((decide (Int.ofNat ln < 0)) = true) := by simp
    have c3 : ¬ ((decide (Int.ofNat ln > Int.ofNat mn)) = true) := by simp; omega
    rw [if_neg (by simp only [Bool.or_eq_true, not_or]; exact ⟨⟨by simpa using c1, c2⟩, c3⟩)]
    simp only [Sem.run_bind, run_askRoom, Result.andThen_ok, ti.run_size w]
    by_cases h0 : mn * ei.size = 0
    · have e0 : ((Array.range 0).map fun i => z.cells[i % ei.size]!) = (Array.range 0).map fun i => (#[] : Array Value)[i % (#[] : Array Value).size]! := by simp
      simp only [Int.ofNat_eq_natCast, Int.toNat_natCast, h0, if_true, Sem.run_bind, Sem.run_pure, Result.andThen_ok, run_newRow, e0]
    · simp only [Int.ofNat_eq_natCast, Int.toNat_natCast, h0, if_false, Sem.run_pure, Result.andThen_ok, Sem.run_bind, ti.run_zero w, run_newRow, e1]
  | convert s d x =>
    obtain ⟨si, hsi, hx⟩ := okO_some hx
    obtain ⟨e, hte, hx⟩ := okO_some hx
    obtain ⟨hg, hx⟩ := (guardT_all _ _).1 hx
    obtain ⟨v, hv, hQ⟩ := (X.kv_all _ _ _).1 hx
    have hu := elemT_some hc hte
    have hu8 := isU8_some hc hg
    obtain ⟨d1, _, _, t1⟩ := tiok hc hsi
    cases v with
    | str st =>
      have hr : a.eval x = .string ⟨⟨st⟩⟩ := (he x (by simp [Op.operands])).v hv
      have hconv : (convert s d (a.eval x)).run P w = (Conv.stringToBytes e ⟨⟨st⟩⟩).run P w := by
        rw [hr]
        unfold convert
        rw [rb (t1.run_und w), rb (run_underlying hu w)]
        cases d1 <;> (simp only; rw [rb (run_underlying hu8 w)])
      obtain ⟨cap, hcap, hch⟩ : ∃ cap, st.length ≤ cap ∧ (choose (.appendCap st.length 0 e)).run P w = .ok cap { w with drawn := w.drawn + 1 } :=
        ⟨_, Nat.le_add_right _ _, by rw [run_choose]; rfl⟩
      have hz : LRel (VR ν) (st.map fun b => V.int .u8 (.ofNat b.toNat)) ((st.toArray.map fun b => Value.int .u8 b.toNat).toList) := by
        simp only [Array.toList_map, List.toList_toArray]
        clear hch hcap hQ hconv hr hv
        induction st with
        | nil => trivial
        | cons b l ih => exact ⟨rfl, ih⟩
      have hsz : ((st.toArray.map fun b => Value.int .u8 b.toNat) ++ Array.replicate (cap - st.length) (Value.int .u8 0)).size = cap := by
        simp; omega
      generalize hrow : (st.toArray.map fun b => Value.int .u8 b.toNat) ++ Array.replicate (cap - st.length) (Value.int .u8 0) = row at hsz
      refine ⟨_, .slice (some ⟨w.heap.size, 0, none⟩) st.length cap, { w with drawn := w.drawn + 1, heap := w.heap.push (.cells row e (cap, cap + 1)) }, cap, hQ, ?_, push_size _ _, push_hold _ _, ⟨rfl, rfl, rfl⟩, fun ν' hle hν => ⟨?_, ?_⟩⟩
      · refine vrun (hconv.trans ?_)
        unfold Conv.stringToBytes
        rw [show (⟨⟨st⟩⟩ : ByteArray).size = st.length from rfl, rb hch]
        have hrow' : (ByteArray.data ⟨⟨st⟩⟩).map (fun b => Value.int .u8 b.toNat) ++ Array.replicate (cap - st.length) (Value.int .u8 0) = row := hrow
        simp only [hrow']
        rw [rb (run_newRow e row)]
        have hms : (markStringish ⟨({ w with drawn := w.drawn + 1 } : World).heap.size, 0, none⟩).run P { w with drawn := w.drawn + 1, heap := w.heap.push (.cells row e (0, 0)) } =
            .ok () { w with drawn := w.drawn + 1, heap := w.heap.push (.cells row e (cap, cap + 1)) } := by
          unfold markStringish
          rw [rb (run_shape _ _ _)]
          have hsh : World.shape? { w with drawn := w.drawn + 1, heap := w.heap.push (.cells row e (0, 0)) } w.heap.size = some (e, cap) := by
            unfold World.shape?
            simp only [Array.getElem?_push_size, hsz]
          simp only [hsh, run_freeze, World.freeze, push_modify]
          simp
        rw [rb hms]
        rfl
      · exact ⟨_, _, cap, hν, rfl, hcap, .inr rfl, by rw [if_neg (by simp)]; exact ⟨hcap, by simp⟩⟩
      · refine ⟨row, e, (cap, cap + 1), push_last _ _, fun i y hy => ?_, fun _ => ⟨by simpa using hcap, by simp; omega, fun i hi => by
          have hi : i < cap := hi
          simp; omega⟩⟩
        obtain ⟨u, h1, h2⟩ := hz.get hy
        refine ⟨u, ?_, h2.mono hle⟩
        rw [← hrow, Nat.zero_add, ← Array.getElem?_toList, Array.toList_append]
        exact (List.getElem?_append_left (List.getElem?_eq_some_iff.1 h1).1).trans h1
    | _ => exact hQ.elim
  | _ => exact hx.elim
end
end Go.Abs
