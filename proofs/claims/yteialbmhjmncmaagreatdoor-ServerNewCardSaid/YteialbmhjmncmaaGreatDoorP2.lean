/- The abstract interpreter, its soundness, and symbolic runs: part 2 of 3. -/
import Derived.Test.YteialbmhjmncmaaGreatDoorP1
import Derived.Laws.BytesString
import Derived.Laws.Cells
import Derived.MapKept
import Derived.Lib.Strings
import Derived.Laws.IdiomCopy
import Derived.Laws.IdiomRangeMap
import Derived.Maps.RangeRun
import Derived.Deep.AppendSrc
import Derived.Lib.AppendZerosOnto
import Derived.OrdersIn
/- The theorem on operations that read memory. -/
namespace Go.Abs
open Go Go.RowKit

theorem XR.v' {ν : Ren} {x : X} {u : Value} {y : V} (h : XR ν x u) (e : x = .y (.v y)) : VR ν y u := XR.v h e

section cells
variable {K : CodeP} {B : Base} {w0 w : World} {ν : Ren} {h : H} {P : Program} {c : Ctx}

theorem getCells_some {b : Nat} {cs : List V} (hb : getCells h b = some cs) : ∃ ro, h.get b = some (.cells cs ro) := by
  unfold getCells at hb
  split at hb
  · rename_i l ro e
    cases hb; exact ⟨ro, e⟩
  · cases hb

theorem getMap_some {b : Nat} {p : List (Y × Y × Nat) × Nat} (hb : getMap h b = some p) : h.get b = some (.map p.1 p.2) := by
  unfold getMap at hb
  split at hb
  · rename_i es cl e
    cases hb; exact e
  · cases hb

/-- A block's cells, one by one. -/
theorem HR.cells (hr : HR K B w0 ν h w) {b : Nat} {cs : List V} {l : Loc} (hb : getCells h b = some cs) (hl : ν b = some l) :
    ∀ i x, cs[i]? = some x → ∃ v, w.cell? ⟨l.blk, l.base + i, none⟩ = some v ∧ VR ν x v := by
  obtain ⟨ro, hg⟩ := getCells_some hb
  obtain ⟨c, t, fr, h1, h2, _⟩ := hr.obj b _ l hg hl
  intro i x hx
  obtain ⟨v, hv, hvr⟩ := h2 i x hx
  exact ⟨v, by simp only [World.cell?, h1]; simpa using hv, hvr⟩

theorem HR.load_sub (hr : HR K B w0 ν h w) {b o n : Nat} {cs r : List V} {l : Loc} (hb : getCells h b = some cs) (hl : ν b = some l) (hs : sub cs o n = some r) :
    ∃ arr : Array Value, (∀ w' : World, w'.heap = w.heap → (loadCells ⟨l.blk, l.base + o, none⟩ n).run P w' = .ok arr w') ∧ LRel (VR ν) r arr.toList := by
  obtain ⟨hle, rfl⟩ := sub_some hs
  have hc := hr.cells hb hl
  have hcell : ∀ j, j < n → ∃ x v, cs[o + j]? = some x ∧ w.cell? ⟨l.blk, l.base + o + j, none⟩ = some v ∧ VR ν x v := by
    intro j hj
    have hlt : o + j < cs.length := by omega
    obtain ⟨v, h1, h2⟩ := hc (o + j) cs[o + j] (List.getElem?_eq_getElem hlt)
    exact ⟨_, v, List.getElem?_eq_getElem hlt, by rw [Nat.add_assoc]; exact h1, h2⟩
  refine ⟨_, fun w' hw' => run_loadCells w' _ n (fun j => (w.cell? ⟨l.blk, l.base + o + j, none⟩).getD undef) (fun j hj => ?_), ?_⟩
  · obtain ⟨x, v, _, h2, _⟩ := hcell j hj
    have hc' : w'.cell? ⟨l.blk, l.base + o + j, none⟩ = w.cell? ⟨l.blk, l.base + o + j, none⟩ := by simp only [World.cell?, hw']
    rw [addr_add, hc', h2]; rfl
  · refine LRel.of_get (by simp; omega) fun i a v ha hv => ?_
    have hi : i < n := by
      have := (List.getElem?_eq_some_iff.1 hv).1
      simpa using this
    obtain ⟨x, u, h1, h2, h3⟩ := hcell i hi
    simp only [List.getElem?_take, hi, if_true, List.getElem?_drop, h1, Option.some.injEq] at ha
    subst ha
    simp only [List.getElem?_map, List.getElem?_range hi, Option.map_some, h2, Option.getD_some, Option.some.injEq] at hv
    subst hv
    exact h3

theorem run_load_cell {a : Addr} {v : Value} (hv : w.cell? a = some v) : (load a).run P w = .ok v w := by
  rw [run_load, hv]

theorem HR.loadVar (hc : CtxOk P c) (hr : HR K B w0 ν h w) {t b o : Nat} {y : Y} {l : Loc} (hl : ν b = some l) (hy : loadY c h t b o = some y) :
    ∃ v, (loadVar t ⟨l.blk, l.base + o, none⟩).run P w = .ok v w ∧ YR ν y v := by
  unfold loadY at hy
  cases ht : c.ti.get t with
  | none => rw [ht] at hy; cases hy
  | some i =>
    cases hg : getCells h b with
    | none => rw [ht, hg] at hy; cases hy
    | some cs =>
      rw [ht, hg] at hy
      simp only at hy
      obtain ⟨d, inf, z, ti⟩ := tiok hc ht
      unfold Go.loadVar
      rw [rb (ti.run_isAgg w)]
      cases ha : i.agg with
      | true =>
        rw [ha] at hy
        simp only [cond_true, Option.map_eq_some_iff] at hy
        obtain ⟨r, hs, rfl⟩ := hy
        obtain ⟨arr, h1, h2⟩ := hr.load_sub (P := P) hg hl hs
        rw [if_pos rfl, rb (ti.run_size w), rb (h1 w rfl)]
        exact ⟨_, rfl, arr, rfl, h2⟩
      | false =>
        rw [ha] at hy
        simp only [cond_false, Option.map_eq_some_iff] at hy
        obtain ⟨x, hx, rfl⟩ := hy
        obtain ⟨v, h1, h2⟩ := hr.cells hg hl o x hx
        rw [if_neg (by simp)]
        exact ⟨v, run_load_cell h1, h2⟩

theorem bytes_data (s : List UInt8) (n : Nat) : ((⟨⟨s⟩⟩ : ByteArray).extract 0 n).data.toList = s.take n := by
  rw [Lib.extract_data]; simp

/-- A slice's first cells, or a text's. -/
theorem HR.firstCells (hr : HR K B w0 ν h w) {size n k : Nat} {x : V} {v : Value} {cs : List V} (hv : VR ν x v) (hk : Abs.lenOf x = some k) (hn : n ≤ k) (hf : Abs.firstCells h size n x = some cs) :
    ∃ arr : Array Value, (∀ w' : World, w'.heap = w.heap → (Builtin.firstCells size n v).run P w' = .ok arr w') ∧ LRel (VR ν) cs arr.toList := by
  cases x with
  | nils =>
    cases hf
    rw [show v = .slice none 0 0 from hv]
    exact ⟨#[], fun _ _ => rfl, trivial⟩
  | slice b o len cap opn =>
    cases hk
    simp only [Abs.firstCells, Option.bind_eq_some_iff] at hf
    obtain ⟨cs0, hg, hs⟩ := hf
    obtain ⟨l, a, cap', hl, rfl, hle, ha, _⟩ := hv
    rcases ha with h0 | rfl
    · have : n = 0 := by omega
      subst this
      obtain ⟨_, rfl⟩ := sub_some hs
      refine ⟨#[], fun w' _ => ?_, by simp [LRel]⟩
      show (loadCells a (0 * size)).run P w' = _
      rw [Nat.zero_mul]; rfl
    · exact hr.load_sub (P := P) hg hl hs
  | str s =>
    cases hf
    rw [show v = .string ⟨⟨s⟩⟩ from hv]
    refine ⟨_, fun _ _ => rfl, ?_⟩
    rw [Array.toList_map, bytes_data]
    generalize s.take n = l
    induction l with
    | nil => trivial
    | cons b l ih => exact ⟨rfl, ih⟩
  | _ => cases hk

theorem lenOf_run {x : V} {v : Value} {k : Nat} (hv : VR ν x v) (hk : Abs.lenOf x = some k) : (Builtin.lenOf v).run P w = .ok k w := by
  cases x with
  | nils => cases hk; rw [show v = .slice none 0 0 from hv]; rfl
  | slice b o len cap opn => cases hk; obtain ⟨l, a, cap', _, rfl, _⟩ := hv; rfl
  | str s => cases hk; rw [show v = .string ⟨⟨s⟩⟩ from hv]; rfl
  | _ => cases hk

theorem bytesOf_some : ∀ {cs : List V} {l : List UInt8} {vs : List Value}, readOp.bytesOf cs = some l → LRel (VR ν) cs vs → vs = (l.map fun b => (Int.ofNat b.toNat)).map (Value.int .u8)
  | [], l, vs, h, hr => by
    cases vs with
    | nil => cases h; rfl
    | cons _ _ => exact hr.elim
  | x :: cs, l, vs, h, hr => by
    cases vs with
    | nil => exact hr.elim
    | cons v vs =>
      unfold readOp.bytesOf at h
      split at h
      · rename_i e; cases e
      · rename_i n rest e
        cases e
        cases hb : Nat.blt n 256 with
        | false => rw [hb] at h; cases h
        | true =>
          rw [hb] at h
          simp only [cond_true, Option.map_eq_some_iff] at h
          obtain ⟨l', hl', rfl⟩ := h
          have hlt := (blt_iff _ _).1 hb
          rw [bytesOf_some hl' hr.2, show v = .int .u8 (.ofNat n) from hr.1]
          simp only [List.map_cons, List.cons.injEq, Value.int.injEq, true_and, and_true]
          congr 1
          simp [UInt8.toNat_ofNat']
          omega
      · cases h

theorem push_all : ∀ (l : List UInt8) (s : ByteArray), (l.map fun b => (Int.ofNat b.toNat)).foldl (fun (r : ByteArray) n => r.push (UInt8.ofNat n.toNat)) s = ⟨⟨s.data.toList ++ l⟩⟩
  | [], s => by simp
  | b :: l, s => by
    rw [List.map_cons, List.foldl_cons, push_all l]
    have : (s.push (UInt8.ofNat (Int.ofNat b.toNat).toNat)).data.toList = s.data.toList ++ [b] := by
      simp [ByteArray.push]
    rw [this, List.append_assoc]; rfl
end cells

/-! ### Keys -/
section keys
variable {P : Program} {c : Ctx} (hc : CtxOk P c) {ν : Ren} {w : World}

def HitR (ν : Ren) (vk : Value) (es' : List MapEntry) (i0 : Nat) (r : Option (Nat × Y)) (r' : Option (Nat × Value)) : Prop :=
  match r, r' with
  | none, none => True
  | some p, some q => p.1 = q.1 ∧ YR ν p.2 q.2 ∧ i0 ≤ p.1 ∧ ∃ e', es'[p.1 - i0]? = some e' ∧ e'.val = q.2 ∧ Instr.sameBits 10000 e'.key vk = true
  | _, _ => False

theorem HitR.skip {vk : Value} {e : MapEntry} {es' : List MapEntry} {i0 : Nat} {r : Option (Nat × Y)} {r' : Option (Nat × Value)} (h : HitR ν vk es' (i0 + 1) r r') : HitR ν vk (e :: es') i0 r r' := by
  cases r with
  | none => cases r' with
    | none => trivial
    | some _ => exact h
  | some p => cases r' with
    | none => exact h
    | some q =>
      obtain ⟨h1, h2, h3, e', h4, h5⟩ := h
      refine ⟨h1, h2, by omega, e', ?_, h5⟩
      rw [show p.1 - i0 = (p.1 - (i0 + 1)) + 1 by omega]
      simpa using h4

theorem findNow_int {k0 k : IntKind} {a : Int} {ks : Option (List TD)} : ∀ (es : List (Y × Y × Nat)) (es' : List MapEntry) (i : Nat) (r : Option (Nat × Y)), findKey ks (.v (.int k a)) es i = some r → LRel (EntR ν) es es' →
    ∃ r', Instr.findNow (.int k0) (.int k a) es' i = some r' ∧ HitR ν (.int k a) es' i r r'
  | [], es', i, r, h, hl => by
    cases es' with
    | nil => cases h; exact ⟨none, rfl, trivial⟩
    | cons _ _ => exact hl.elim
  | e :: es, es', i, r, h, hl => by
    cases es' with
    | nil => exact hl.elim
    | cons e' es' =>
      obtain ⟨ek, ev, eb⟩ := e
      obtain ⟨⟨h1, h2, h3⟩, hl⟩ := hl
      unfold findKey at h
      simp only at h1 h2 h
      cases ek with
      | agg _ => cases h
      | v x =>
        cases x with
        | int k2 b =>
          simp only at h
          have hkey : e'.key = .int k2 b := h1
          by_cases hk : k = k2
          · subst hk
            simp only [IntKind.beqV, decide_true, cond_true] at h
            rw [intEq_eq] at h
            cases hab : (a == b) with
            | true =>
              rw [hab] at h
              simp only [cond_true, Option.some.injEq] at h
              subst h
              have e : a = b := by simpa using hab
              subst e
              refine ⟨some (i, e'.val), ?_, rfl, h2, Nat.le_refl _, e', by simp, rfl, ?_⟩
              · simp [Instr.findNow, hkey, Instr.sameNow]
              · rw [hkey]; simp [Instr.sameBits]
            | false =>
              rw [hab] at h
              simp only [cond_false] at h
              obtain ⟨r', h4, h5⟩ := findNow_int es es' (i + 1) r h hl
              refine ⟨r', ?_, h5.skip⟩
              simp only [Instr.findNow, hkey, Instr.sameNow, if_true, hab]
              exact h4
          · simp [IntKind.beqV, hk] at h
        | _ => cases h

theorem bytes_beq' (a b : List UInt8) : ((⟨⟨a⟩⟩ : ByteArray) == ⟨⟨b⟩⟩) = (a == b) := by
  rw [Bool.eq_iff_iff, MapKept.bytes_beq]
  simp

theorem findNow_str {a : List UInt8} {ks : Option (List TD)} : ∀ (es : List (Y × Y × Nat)) (es' : List MapEntry) (i : Nat) (r : Option (Nat × Y)), findKey ks (.v (.str a)) es i = some r → LRel (EntR ν) es es' →
    ∃ r', Instr.findNow .string (.string ⟨⟨a⟩⟩) es' i = some r' ∧ HitR ν (.string ⟨⟨a⟩⟩) es' i r r'
  | [], es', i, r, h, hl => by
    cases es' with
    | nil => cases h; exact ⟨none, rfl, trivial⟩
    | cons _ _ => exact hl.elim
  | e :: es, es', i, r, h, hl => by
    cases es' with
    | nil => exact hl.elim
    | cons e' es' =>
      obtain ⟨ek, ev, eb⟩ := e
      obtain ⟨⟨h1, h2, h3⟩, hl⟩ := hl
      unfold findKey at h
      simp only at h1 h2 h
      cases ek with
      | agg _ => cases h
      | v x =>
        cases x with
        | str b =>
          simp only at h
          have hkey : e'.key = .string ⟨⟨b⟩⟩ := h1
          rw [bytesEq_eq] at h
          cases hab : (a == b) with
          | true =>
            rw [hab] at h
            simp only [cond_true, Option.some.injEq] at h
            subst h
            have e : a = b := by simpa using hab
            subst e
            refine ⟨some (i, e'.val), ?_, rfl, h2, Nat.le_refl _, e', by simp, rfl, ?_⟩
            · simp [Instr.findNow, hkey, Instr.sameNow, bytes_beq']
            · rw [hkey]; simp [Instr.sameBits, bytes_beq']
          | false =>
            rw [hab] at h
            simp only [cond_false] at h
            obtain ⟨r', h4, h5⟩ := findNow_str es es' (i + 1) r h hl
            refine ⟨r', ?_, h5.skip⟩
            simp only [Instr.findNow, hkey, Instr.sameNow, bytes_beq', hab]
            exact h4
        | _ => cases h

theorem sameBits_scalar {d : TD} {a b : V} {va vb : Value} (ha : VR ν a va) (hb : VR ν b vb) (h : eqScalar d a b = some true) (n : Nat) : Instr.sameBits n vb va = true := by
  rcases eqScalar_inv h with ⟨rfl, x, y, rfl, rfl, e⟩ | ⟨k0, rfl, k, x, y, rfl, rfl, e⟩ | ⟨rfl, x, y, rfl, rfl, e⟩
  · cases ha; cases hb
    have : x = y := by simpa using e.symm
    subst this; cases n <;> simp [Instr.sameBits]
  · cases ha; cases hb
    have : x = y := by simpa using e.symm
    subst this; cases n <;> simp [Instr.sameBits]
  · cases ha; cases hb
    have : x = y := by simpa using e.symm
    subst this; cases n <;> simp [Instr.sameBits, bytes_beq']

theorem sameBits_cells (n : Nat) : ∀ (ks : List TD) (a b : List V) (xs ys : List Value), eqCells ks a b = some true → LRel (VR ν) a xs → LRel (VR ν) b ys →
    xs.length = ys.length ∧ (ys.zip xs).all (fun p => Instr.sameBits n p.1 p.2) = true := by
  intro ks
  induction ks with
  | nil =>
    intro a b xs ys h ha hb
    cases a with
    | nil => cases b with
      | nil =>
        cases xs with
        | nil => cases ys with
          | nil => exact ⟨rfl, rfl⟩
          | cons _ _ => exact hb.elim
        | cons _ _ => exact ha.elim
      | cons _ _ => cases h
    | cons _ _ => cases h
  | cons d ks ih =>
    intro a b xs ys h ha hb
    cases a with
    | nil => cases h
    | cons a as =>
      cases b with
      | nil => cases h
      | cons b bs =>
        simp only [eqCells, Option.bind_eq_some_iff, Option.map_eq_some_iff] at h
        obtain ⟨r1, h1, r2, h2, h3⟩ := h
        simp only [Bool.and_eq_true] at h3
        obtain ⟨rfl, rfl⟩ := h3
        cases xs with
        | nil => exact ha.elim
        | cons x xs =>
          cases ys with
          | nil => exact hb.elim
          | cons y ys =>
            obtain ⟨i1, i2⟩ := ih as bs xs ys h2 ha.2 hb.2
            refine ⟨by simp [i1], ?_⟩
            simp only [List.zip_cons_cons, List.all_cons, i2, Bool.and_true]
            exact sameBits_scalar ha.1 hb.1 h1 n

theorem findAsking_agg {kt : TypeId} {ks : List TD} (hk : cmpT P kt = some ks) {a : List V} {xs : Array Value} (ha : LRel (VR ν) a xs.toList) :
    ∀ (es : List (Y × Y × Nat)) (es' : List MapEntry) (i : Nat) (r : Option (Nat × Y)), findKey (some ks) (.agg a) es i = some r → LRel (EntR ν) es es' →
    ∃ r', (Instr.findAsking kt (.agg xs) es' i).run P w = .ok r' w ∧ HitR ν (.agg xs) es' i r r'
  | [], es', i, r, h, hl => by
    cases es' with
    | nil => cases h; exact ⟨none, rfl, trivial⟩
    | cons _ _ => exact hl.elim
  | e :: es, es', i, r, h, hl => by
    cases es' with
    | nil => exact hl.elim
    | cons e' es' =>
      obtain ⟨ek, ev, eb⟩ := e
      obtain ⟨⟨h1, h2, h3⟩, hl⟩ := hl
      unfold findKey at h
      simp only at h1 h2 h
      cases ek with
      | v x => cases h
      | agg b =>
        obtain ⟨ys, hkey, hys⟩ := h1
        simp only [Option.bind_some] at h
        split at h
        · rename_i he
          cases h
          have hq := (cells_equal (w := w) hk he ha hys 9998).1
          obtain ⟨hs1, hs2⟩ := sameBits_cells 9999 ks a b xs.toList ys.toList he ha hys
          refine ⟨some (i, e'.val), ?_, rfl, h2, Nat.le_refl _, e', by simp, rfl, ?_⟩
          · unfold Instr.findAsking
            rw [hkey]
            rw [rb (show (Op.equal kt (.agg xs) (.agg ys)).run P w = .ok true w from hq)]
            rfl
          · rw [hkey]
            simp only [Instr.sameBits, Bool.and_eq_true]
            exact ⟨by simpa using hs1.symm, hs2⟩
        · rename_i he
          have hq := (cells_equal (w := w) hk he ha hys 9998).1
          obtain ⟨r', h4, h5⟩ := findAsking_agg hk ha es es' (i + 1) r h hl
          refine ⟨r', ?_, h5.skip⟩
          unfold Instr.findAsking
          rw [hkey]
          rw [rb (show (Op.equal kt (.agg xs) (.agg ys)).run P w = .ok false w from hq)]
          exact h4
        · cases h

theorem flat_length : ∀ (fs : List Field) (i : Nat) (ks : List TD), flatFields P fs i = some ks → ks.length = fs.length
  | [], _, _, h => by cases h; rfl
  | f :: fs, i, ks, h => by
    unfold flatFields at h
    cases hb : (Nat.beq f.offset i && f.name != "_") with
    | false => rw [hb] at h; cases h
    | true =>
      rw [hb] at h
      simp only [cond_true, Option.bind_eq_some_iff, Option.map_eq_some_iff] at h
      obtain ⟨d, hd, ks', hks', rfl⟩ := h
      simp [flat_length fs (i + 1) ks' hks']

/-- A struct's cells are no faulty key. -/
theorem checkKey_struct {kt : TypeId} {fs : Array Field} (hu : P.underlying kt = some (.struct fs)) {ks : List TD} (hf : flatFields P fs.toList 0 = some ks) {xs : Array Value} (hlen : fs.toList.length ≤ xs.size) (em : Bool) (n : Nat) :
    (Instr.checkKey em (n + 2) kt (.agg xs)).run P w = .ok () w := by
  rw [Instr.checkKey]
  simp only [Sem.run_bind, run_underlying hu, Result.andThen_ok]
  rw [← Array.forIn_toList]
  generalize fs.toList = L at hf hlen
  obtain ⟨i, hi⟩ : ∃ i : Nat, i = 0 := ⟨0, rfl⟩
  replace hlen : i + L.length ≤ xs.size := by omega
  rw [← hi] at hf
  clear hi
  induction L generalizing i ks with
  | nil => simp
  | cons f fs ih =>
    unfold flatFields at hf
    cases hb : (Nat.beq f.offset i && f.name != "_") with
    | false => rw [hb] at hf; cases hf
    | true =>
      rw [hb] at hf
      simp only [Bool.and_eq_true, bne_iff_ne, ne_eq] at hb
      simp only [cond_true, Option.bind_eq_some_iff, Option.map_eq_some_iff] at hf
      obtain ⟨d, hd, ks', hks', _⟩ := hf
      have ho : f.offset = i := Nat.eq_of_beq_eq_true hb.1
      have hlt : i < xs.size := by simp at hlen; omega
      have hp := scalar_part (w := w) hd (cs := xs) (o := f.offset) (v := xs[i]) (by rw [ho]; exact Array.getElem?_eq_getElem hlt)
      have hck : ∀ v, (Instr.checkKey em (n + 1) f.type v).run P w = .ok () w := by
        intro v
        unfold Instr.checkKey
        rcases scalarT_und hd with ⟨_, hu⟩ | ⟨k, _, hu⟩ | ⟨_, hu⟩ <;> (rw [rb (run_underlying hu w)]; cases v <;> rfl)
      simp only [List.forIn_cons, Sem.run_bind, hb.2, ne_eq, not_false_eq_true, if_true, Result.andThen_ok, hp, hck, Sem.run_pure]
      exact ih (i + 1) hks' (by simp at hlen; omega)

include hc in
theorem findAt_run {kt : TypeId} {k : Y} {es : List (Y × Y × Nat)} {r : Option (Nat × Y)} (h : findAt c kt k es = some r) {vk : Value} (hk : YR ν k vk) {es' : List MapEntry} (hl : LRel (EntR ν) es es') :
    (∀ em, (Instr.checkKey em 10000 kt vk).run P w = .ok () w) ∧ ∃ r', (Instr.findKey kt vk es').run P w = .ok r' w ∧ HitR ν vk es' 0 r r' := by
  unfold findAt at h
  cases ht : c.ti.get kt with
  | none => rw [ht] at h; cases h
  | some ki =>
    rw [ht] at h
    simp only at h
    obtain ⟨d, inf, z, ti⟩ := tiok hc ht
    cases hok : keyOk ki k with
    | false => rw [hok] at h; cases h
    | true =>
      rw [hok] at h
      simp only [cond_true] at h
      have hscal : (∀ em, (Instr.checkKey em 10000 kt vk).run P w = .ok () w) ∨ True := .inr trivial
      cases k with
      | agg a =>
        obtain ⟨xs, rfl, hxs⟩ := hk
        unfold keyOk at hok
        simp only at hok
        cases hd : ki.d with
        | struct l =>
          cases hcm : ki.cmp with
          | none => rw [hd, hcm] at hok; cases hok
          | some ks =>
            rw [hd, hcm] at hok
            rw [hcm] at h
            have hal : a.length = ks.length := Nat.eq_of_beq_eq_true hok
            obtain ⟨fs, rfl, _, _⟩ := ti.desc_struct hd
            have hcmp : cmpT P kt = some ks := by rw [← hcm, ti.eq]
            have hff : flatFields P fs.toList 0 = some ks := by
              have := hcmp
              unfold cmpT at this
              rw [ti.und] at this
              simp only at this
              cases hg : (P.eqGuardType P.depth kt || P.stoodInHeld kt) with
              | true => rw [hg] at this; cases this
              | false => rw [hg] at this; exact this
            refine ⟨fun em => checkKey_struct ti.und hff ?_ em 9998, ?_⟩
            · have e1 := flat_length _ _ _ hff
              have e2 := hxs.length
              have e3 : xs.toList.length = xs.size := by simp
              omega
            · obtain ⟨r', h1, h2⟩ := findAsking_agg (w := w) hcmp hxs es es' 0 r h hl
              cases es' with
              | nil =>
                cases es with
                | cons _ _ => exact hl.elim
                | nil =>
                  cases h
                  refine ⟨none, ?_, trivial⟩
                  unfold Instr.findKey
                  rw [rb (ti.run_und w)]
                  rfl
              | cons e' es' =>
                refine ⟨r', ?_, h2⟩
                unfold Instr.findKey
                rw [rb (ti.run_und w)]
                exact h1
        | _ => rw [hd] at hok; cases ki.cmp <;> cases hok
      | v x =>
        cases x with
        | int kk n =>
          have e : vk = .int kk n := hk
          subst e
          cases hd : ki.d with
          | int k0 =>
            have e := ti.desc_int hd
            subst e
            refine ⟨fun em => by unfold Instr.checkKey; rw [rb (ti.run_und w)]; rfl, ?_⟩
            obtain ⟨r', h1, h2⟩ := findNow_int (k0 := k0) es es' 0 r h hl
            exact ⟨r', MapKept.run_findKey ti.und h1, h2⟩
          | _ => unfold keyOk at hok; simp only [hd] at hok; cases hok
        | str s =>
          have e : vk = .string ⟨⟨s⟩⟩ := hk
          subst e
          cases hd : ki.d with
          | str =>
            have e := ti.desc_str hd
            subst e
            refine ⟨fun em => by unfold Instr.checkKey; rw [rb (ti.run_und w)]; rfl, ?_⟩
            obtain ⟨r', h1, h2⟩ := findNow_str es es' 0 r h hl
            exact ⟨r', MapKept.run_findKey ti.und h1, h2⟩
          | _ => unfold keyOk at hok; simp only [hd] at hok; cases hok
        | _ => cases hok
end keys

section reads
variable {K : CodeP} {B : Base} {w0 w : World} {ν : Ren} {h : H} {P : Program} {c : Ctx} (hc : CtxOk P c)

include hc in
theorem mapT_some {t : Nat} {ke : Nat × Nat} (h : mapT c t = some ke) : P.underlying t = some (.map ke.1 ke.2) := by
  unfold mapT at h
  simp only [Option.bind_eq_some_iff] at h
  obtain ⟨i, hi, h⟩ := h
  obtain ⟨d, inf, z, ti⟩ := tiok hc hi
  cases hd : i.d with
  | map k e =>
    rw [hd] at h
    cases h
    rw [ti.und, ti.desc_map hd]
  | _ => rw [hd] at h; cases h

theorem HR.entries (hr : HR K B w0 ν h w) {m : V} {vm : Value} (hm : VR ν m vm) {es : List (Y × Y × Nat)} (he : entriesOf h m = some es) :
    (vm = .map none ∧ es = []) ∨ ∃ r es' clock, vm = .map (some r) ∧ w.heap[r]? = some (.map es' clock) ∧ LRel (EntR ν) es es'.toList := by
  cases m with
  | nilm => cases he; exact .inl ⟨hm, rfl⟩
  | map b =>
    simp only [entriesOf, Option.map_eq_some_iff] at he
    obtain ⟨p, hp, rfl⟩ := he
    obtain ⟨l, hl, rfl⟩ := hm
    obtain ⟨es', h1, h2⟩ := hr.obj b _ l (getMap_some hp) hl
    exact .inr ⟨l.blk, es', p.2, rfl, h1, h2⟩
  | _ => cases he

def hitY (ei : TI) (r : Option (Nat × Y)) : Y := match r with | some p => p.2 | none => zeroY ei

include hc in
theorem lookup_run (hr : HR K B w0 ν h w) {t : Nat} {m : V} {k : Y} {ok : Bool} {x : X} (hx : lookupOp c h t m k ok = some x) {vm vk : Value} (hm : VR ν m vm) (hk : YR ν k vk) :
    ∃ v, (Instr.lookup t vm vk ok).run P w = .ok v w ∧ XR ν x v := by
  unfold lookupOp at hx
  simp only [Option.bind_eq_some_iff, Option.map_eq_some_iff] at hx
  obtain ⟨ke, hke, ei, hei, es, hes, r, hf, rfl⟩ := hx
  have hu := mapT_some hc hke
  obtain ⟨d, inf, z, ti⟩ := tiok hc hei
  have hz : YR ν (Abs.zeroY ei) z := ti.zeroY ν
  have fin : ∀ L : Array MapEntry, LRel (EntR ν) es L.toList → ∃ v, (do
      Instr.checkKey L.isEmpty 10000 ke.1 vk
      let q ← Instr.findKey ke.1 vk L.toList
      match q with
      | some (_, v) => pure (if ok then .tuple #[v, .bool true] else v)
      | none => do let z ← zeroValue ke.2; pure (if ok then .tuple #[z, .bool false] else z) : Sem Value).run P w = .ok v w ∧
        XR ν (bif ok then .tup [hitY ei r, .v (.bool r.isSome)] else .y (hitY ei r)) v := by
    intro L hL
    obtain ⟨hck, r', hfk, hhit⟩ := findAt_run (w := w) hc hf hk hL
    rw [rb (hck _), rb hfk]
    cases r with
    | none => cases r' with
      | some q => exact hhit.elim
      | none =>
        simp only
        rw [rb (ti.run_zero w)]
        cases ok with
        | true => exact ⟨_, rfl, _, rfl, hz, rfl, trivial⟩
        | false => exact ⟨_, rfl, hz⟩
    | some p => cases r' with
      | none => exact hhit.elim
      | some q =>
        cases ok with
        | true => exact ⟨_, rfl, _, rfl, hhit.2.1, rfl, trivial⟩
        | false => exact ⟨_, rfl, hhit.2.1⟩
  rcases hr.entries hm hes with ⟨rfl, rfl⟩ | ⟨r0, es', clock, rfl, h1, h2⟩
  · obtain ⟨v, h3, h4⟩ := fin #[] trivial
    refine ⟨v, ?_, h4⟩
    rw [← h3]
    unfold Instr.lookup
    rw [rb (run_underlying hu w)]
    rfl
  · obtain ⟨v, h3, h4⟩ := fin es' h2
    refine ⟨v, ?_, h4⟩
    rw [← h3]
    unfold Instr.lookup
    rw [rb (run_underlying hu w)]
    simp only
    rw [rb (MapKept.run_getObj_map h1)]
    rfl

include hc in
theorem read_sound (hr : HR K B w0 ν h w) {env : Env} {a : Act} {o : Oper} {x : X} (he : EvR ν env a o.op.operands.toList) (hx : readOp c h env o.op = some x) :
    Gives P ν w (· = x) (execOp a.eval o) := by
  obtain ⟨dst, op, type, pos, after, guard⟩ := o
  simp only at he hx
  cases op with
  | load t p =>
    simp only [readOp] at hx
    split at hx
    · rename_i b off hp
      simp only [Option.map_eq_some_iff] at hx
      obtain ⟨y, hy, rfl⟩ := hx
      obtain ⟨l, hl, e⟩ := (he p (by simp [Op.operands])).v hp
      obtain ⟨v, h1, h2⟩ := hr.loadVar hc hl hy
      refine .of rfl ?_ h2
      rw [e]
      exact h1
    · cases hx
  | lookup t m k ok =>
    simp only [readOp] at hx
    split at hx
    · rename_i mv kv hm hk
      obtain ⟨v, h1, h2⟩ := lookup_run hc hr hx ((he m (by simp [Op.operands])).v hm) ((he k (by simp [Op.operands])).yy hk)
      exact .of rfl h1 h2
    · cases hx
  | convert s d p =>
    simp only [readOp] at hx
    split at hx
    · rename_i v hp
      cases ht : toText c s d with
      | false => rw [ht] at hx; cases hx
      | true =>
        rw [ht] at hx
        simp only [cond_true, Option.bind_eq_some_iff, Option.map_eq_some_iff] at hx
        obtain ⟨n, hn, cs, hcs, l, hl, rfl⟩ := hx
        have hr2 := (he p (by simp [Op.operands])).v hp
        unfold toText at ht
        cases hs : c.ti.get s with
        | none => rw [hs] at ht; cases ht
        | some si =>
          cases hd : c.ti.get d with
          | none => rw [hs, hd] at ht; cases ht
          | some di =>
            rw [hs, hd] at ht
            simp only at ht
            cases hsd : si.d with
            | slice e =>
              cases hdd : di.d with
              | str =>
                rw [hsd, hdd] at ht
                simp only at ht
                obtain ⟨d1, _, _, t1⟩ := tiok hc hs
                obtain ⟨d2, _, _, t2⟩ := tiok hc hd
                have u1 : P.underlying s = some (.slice e) := by rw [t1.und, t1.desc_slice hsd]
                have u2 : P.underlying d = some .string := by rw [t2.und, t2.desc_str hdd]
                have u3 : P.underlying e = some (.int .u8) := by
                  unfold isU8 at ht
                  cases hee : c.ti.get e with
                  | none => rw [hee] at ht; cases ht
                  | some ei =>
                    rw [hee] at ht
                    simp only at ht
                    obtain ⟨d3, _, _, t3⟩ := tiok hc hee
                    split at ht
                    · rename_i h8; rw [t3.und, t3.desc_int h8]
                    · cases ht
                cases v with
                | nils =>
                  cases hn; cases hcs; cases hl
                  refine .of (v := .string .empty) rfl ?_ rfl
                  rw [show a.eval p = .slice none 0 0 from hr2, run_convert_bytes_string w s d e none 0 0 u1 u3 u2]
                  rfl
                | slice b o len cap opn =>
                  cases hn
                  obtain ⟨arr, h1, h2⟩ := hr.firstCells (P := P) hr2 rfl (Nat.le_refl _) hcs
                  obtain ⟨l0, a0, cap', hl0, e0, _⟩ := hr2
                  rw [e0] at h1
                  have hb := bytesOf_some hl h2
                  have e1 : arr = ((l.map fun b => (Int.ofNat b.toNat)).map (Value.int .u8)).toArray := by rw [← hb]
                  rw [e1] at h1
                  have h1' : (loadCells a0 (n * 1)).run P w = _ := h1 w rfl
                  rw [Nat.mul_one] at h1'
                  refine .of (v := .string ⟨⟨l⟩⟩) rfl ?_ rfl
                  rw [e0, run_convert_bytes_string w s d e (some a0) _ cap' u1 u3 u2,
                    run_bytesToString w a0 _ cap' _ h1', push_all]
                  rfl
                | _ => cases hn
              | _ => rw [hsd, hdd] at ht; cases ht
            | _ => rw [hsd] at ht; cases ht
    · cases hx
  | call c' =>
    obtain ⟨callee, args, ats⟩ := c'
    obtain ⟨args⟩ := args
    obtain ⟨ats⟩ := ats
    simp only [readOp] at hx
    split at hx
    · rename_i x0 t ts
      obtain ⟨csx, hex⟩ := exec_builtin a.eval dst Builtin.len [x0] ⟨t :: ts⟩ type pos after guard
      rw [hex]
      have hx0 := he x0 (by simp [Op.operands, Call.operands])
      cases hm : isMapT c t with
      | false => rw [hm] at hx; cases hx
      | true =>
        rw [hm] at hx
        simp only [cond_true] at hx
        have hu : ∃ k e, P.underlying t = some (.map k e) := by
          unfold isMapT at hm
          split at hm
          · rename_i ti ht
            split at hm
            · rename_i k e hd
              obtain ⟨d, _, _, tk⟩ := tiok hc ht
              exact ⟨k, e, by rw [tk.und, tk.desc_map hd]⟩
            · cases hm
          · cases hm
        obtain ⟨k, e, hu⟩ := hu
        split at hx
        · rename_i hv
          cases hx
          have e2 : a.eval x0 = .map none := hx0.v hv
          refine .of (v := .int .i64 0) rfl ?_ rfl
          unfold Builtin.len_
          simp only [List.getElem?_toArray, List.map_cons, List.getElem?_cons_zero]
          rw [rb (run_underlying hu w), e2]; rfl
        · rename_i b hv
          simp only [Option.map_eq_some_iff] at hx
          obtain ⟨p, hp, rfl⟩ := hx
          obtain ⟨l, hl, e2⟩ := hx0.v hv
          obtain ⟨es', h1, h2⟩ := hr.obj b _ l (getMap_some hp) hl
          refine .of (v := .int .i64 p.1.length) rfl ?_ rfl
          unfold Builtin.len_
          simp only [List.getElem?_toArray, List.map_cons, List.getElem?_cons_zero]
          rw [rb (run_underlying hu w), e2]
          simp only
          rw [rb (MapKept.run_getObj_map h1), h2.length]
          simp; rfl
        · cases hx
    · cases hx
  | _ => cases hx
end reads
end Go.Abs

/- The theorem on operations that lay a block. -/
namespace Go.Abs
open Go Go.RowKit

/-- What an operation has laid. -/
structure Laid (K : CodeP) (ν : Ren) (w : World) (next : Nat) (x : V × O) (v : Value) (w' : World) (tot : Nat) : Prop where
  size : w'.heap.size = w.heap.size + 1
  hold : ∀ k, k < w.heap.size → w'.heap[k]? = w.heap[k]?
  rest : SameRest w w'
  val : ∀ ν', ν.le ν' → ν' next = some ⟨w.heap.size, 0, tot⟩ → VR ν' x.1 v ∧ OR K ν' ⟨w.heap.size, 0, tot⟩ w' x.2

section
variable {K : CodeP} {B : Base} {w0 w : World} {ν : Ren} {h : H} {P : Program} {c : Ctx} (hc : CtxOk P c)

theorem run_newRow (e : TypeId) (cs : Array Value) : (newRow e cs).run P w = .ok ⟨w.heap.size, 0, none⟩ { w with heap := w.heap.push (.cells cs e (0, 0)) } := rfl
theorem run_newVar (e : TypeId) (v : Value) : (newVar e v).run P w = .ok ⟨w.heap.size, 0, none⟩ { w with heap := w.heap.push (.cells v.cells e (0, 0)) } := rfl

theorem push_size (w : World) (o : Obj) : ({ w with heap := w.heap.push o } : World).heap.size = w.heap.size + 1 := Array.size_push ..
theorem push_hold (w : World) (o : Obj) (k : Nat) (hk : k < w.heap.size) : ({ w with heap := w.heap.push o } : World).heap[k]? = w.heap[k]? := by
  show (w.heap.push o)[k]? = _
  rw [Array.getElem?_push, if_neg (by omega)]
theorem push_last (w : World) (o : Obj) : ({ w with heap := w.heap.push o } : World).heap[w.heap.size]? = some o := by
  show (w.heap.push o)[w.heap.size]? = _
  simp

/-- New cells, all of which are told. -/
theorem OR.cells_new {ν' : Ren} {cs : List V} {arr : Array Value} (hr : LRel (VR ν) cs arr.toList) (hle : ν.le ν') (w' : World) (n : Nat) (e : TypeId) (hw : w'.heap[n]? = some (.cells arr e (0, 0))) (tot : Nat) (ht : tot = arr.size) :
    OR K ν' ⟨n, 0, tot⟩ w' (.cells cs false) := by
  refine ⟨arr, e, (0, 0), hw, fun i x hx => ?_, fun _ => ⟨?_, ?_, ?_⟩⟩
  · obtain ⟨v, h1, h2⟩ := hr.get hx
    exact ⟨v, by simpa using h1, h2.mono hle⟩
  · have := hr.length
    simp at this
    simp; omega
  · simp; omega
  · intro i _ hi
    simp at hi

theorem Laid.cells {cs : List V} {arr : Array Value} (hr : LRel (VR ν) cs arr.toList) (e : TypeId) {next : Nat} {x : V} {v : Value}
    (hx : ∀ ν' : Ren, ν' next = some ⟨w.heap.size, 0, arr.size⟩ → VR ν' x v) :
    Laid K ν w next (x, .cells cs false) v { w with heap := w.heap.push (.cells arr e (0, 0)) } arr.size :=
  ⟨push_size _ _, push_hold _ _, ⟨rfl, rfl, rfl, by first | exact Nat.le_refl _ | exact Nat.le_succ _⟩, fun ν' hle hν => ⟨hx ν' hν, .cells_new hr hle _ _ e (push_last _ _) _ rfl⟩⟩

theorem rep_succ (z : List V) (n : Nat) : rep z (n + 1) = z ++ rep z n := rfl
theorem rep_length (z : List V) : ∀ n, (rep z n).length = n * z.length
  | 0 => by simp [show rep z 0 = [] from rfl]
  | n + 1 => by rw [rep_succ, List.length_append, rep_length z n, Nat.succ_mul]; omega
theorem rep_get (z : List V) : ∀ n i, i < n * z.length → (rep z n)[i]? = z[i % z.length]?
  | 0, i, h => by simp at h
  | n + 1, i, h => by
    rw [rep_succ, List.getElem?_append]
    split
    · rename_i hlt; rw [Nat.mod_eq_of_lt hlt]
    · rename_i hge
      rw [Nat.succ_mul] at h
      rw [rep_get z n (i - z.length) (by omega)]
      congr 1
      rw [Nat.mod_eq_sub_mod (a := i) (by omega)]

theorem rep_R {z : List V} {zc : Array Value} (hz : LRel (VR ν) z zc.toList) (n : Nat) : LRel (VR ν) (rep z n) ((Array.range (n * zc.size)).map fun i => zc[i % zc.size]!).toList := by
  have hl : z.length = zc.size := by have := hz.length; simpa using this
  refine LRel.of_get (by rw [rep_length, hl]; simp) fun i a b ha hb => ?_
  have hi : i < n * zc.size := by
    have := (List.getElem?_eq_some_iff.1 hb).1
    simpa using this
  have hpos : 0 < zc.size := by
    rcases Nat.eq_zero_or_pos zc.size with h0 | h0
    · rw [h0] at hi; simp at hi
    · exact h0
  rw [rep_get z n i (by rw [hl]; exact hi), hl] at ha
  have hb2 : b = zc[i % zc.size]! := by
    simp only [Array.toList_map, List.getElem?_map, Array.toList_range, List.getElem?_range hi, Option.map_some, Option.some.injEq] at hb
    exact hb.symm
  obtain ⟨v, h1, h2⟩ := hz.get ha
  have hlt : i % zc.size < zc.size := Nat.mod_lt _ hpos
  rw [hb2, getElem!_pos zc _ hlt]
  rw [Array.getElem?_toList, Array.getElem?_eq_getElem hlt] at h1
  cases h1
  exact h2

theorem zeroCells_R {z : List V} {zc : Array Value} (hz : LRel (VR ν) z zc.toList) (n : Nat) : LRel (VR ν) (rep z n) (Builtin.zeroCells zc n).toList := rep_R hz n

include hc in
theorem elemT_some {t e : Nat} (h : elemT c t = some e) : P.underlying t = some (.slice e) := by
  unfold elemT at h
  simp only [Option.bind_eq_some_iff] at h
  obtain ⟨i, hi, h⟩ := h
  obtain ⟨d, inf, z, ti⟩ := tiok hc hi
  split at h
  · rename_i e' hd
    cases h
    rw [ti.und, ti.desc_slice hd]
  · cases h

include hc in
theorem isU8_some {e : Nat} (h : isU8 c e = true) : P.underlying e = some (.int .u8) := by
  unfold isU8 at h
  cases hee : c.ti.get e with
  | none => rw [hee] at h; cases h
  | some ei =>
    rw [hee] at h
    simp only at h
    obtain ⟨d3, _, _, t3⟩ := tiok hc hee
    split at h
    · rename_i h8; rw [t3.und, t3.desc_int h8]
    · cases h

theorem push_modify {α : Type} (xs : Array α) (o : α) (f : α → α) : (xs.push o).modify xs.size f = xs.push (f o) := by
  apply Array.ext_getElem?
  intro i
  rw [Array.getElem?_modify, Array.getElem?_push, Array.getElem?_push]
  by_cases hi : i = xs.size
  · subst hi; simp
  · rw [if_neg hi, if_neg hi, if_neg (fun e => hi e.symm)]

theorem wrap_small {n : Nat} (h : n ≤ 281474976710656) : IntKind.i64.wrap (Int.ofNat n) = Int.ofNat n := by
  rw [← wrapV_eq]
  unfold wrapV
  have : Nat.blt n two63 = true := (blt_iff _ _).2 (by rw [two63_eq]; omega)
  simp only [this, cond_true]

include hc in
theorem lays_sound {env : Env} {a : Act} {o : Oper} {next : Nat} {Q : V × O → Prop} (he : EvR ν env a o.op.operands.toList) (hx : (laysOp c env next o.op).all Q) :
    ∃ x v w' tot, Q x ∧ (execOp a.eval o).run P w = .ok (.value v) w' ∧ Laid K ν w next x v w' tot := by
  obtain ⟨dst, op, type, pos, after, guard⟩ := o
  simp only at he hx
  cases op with
  | alloc t =>
    obtain ⟨i, hi, hQ⟩ := okO_some hx
    obtain ⟨d, inf, z, ti⟩ := tiok hc hi
    refine ⟨_, .pointer (some ⟨w.heap.size, 0, none⟩), _, _, hQ, ?_, .cells (ti.zeroR ν) t fun ν' hν => ⟨_, hν, rfl⟩⟩
    refine vrun ?_
    unfold Instr.alloc
    rw [rb (ti.run_zero w)]
    rfl
  | box t x =>
    obtain ⟨i, hi, hx⟩ := okO_some hx
    obtain ⟨y, hy, hQ⟩ := (X.k_all _ _ _).1 hx
    have hr := (he x (by simp [Op.operands])).yy hy
    refine ⟨_, .pointer (some ⟨w.heap.size, 0, none⟩), _, _, hQ, ?_, .cells hr.cells t fun ν' hν => ⟨_, hν, rfl⟩⟩
    exact vrun rfl
  | buildSlice t len ps =>
    obtain ⟨e, hte, hx⟩ := okO_some hx
    obtain ⟨ei, hei, hx⟩ := okO_some hx
    obtain ⟨l, hl, hx⟩ := okO_some hx
    obtain ⟨hg, hx⟩ := (guardT_all _ _).1 hx
    obtain ⟨cs, hcs, hQ⟩ := okO_some hx
    have hu := elemT_some hc hte
    obtain ⟨d, inf, z, ti⟩ := tiok hc hei
    have hle := Nat.le_of_ble_eq_true hg
    have hl' := evParts_R _ _ hl (fun x hx => he x (by simpa [Op.operands] using hx))
    have hz : LRel (VR ν) (rep ei.zero len) ((Array.range (len * ei.size)).map fun i => z.cells[i % z.cells.size]!).toList := by
      have := rep_R (ti.zeroR ν) len
      have e1 : z.cells.size = ei.size := by
        have := ti.zcells.2
        simpa using this
      rw [e1] at this ⊢
      exact this
    obtain ⟨arr, h1, h2, h3⟩ := fill_run (c := c) (d := .array len e) (fun i => some (i * ei.size, ei.size)) (by
        intro i p hp
        simp only [placeOf, hei, Option.map_some] at hp
        exact hp) l _ _ _ cs hcs hl' hz
    have hps : (ps.map fun (i, x) => (i, a.eval x)).toList = ps.toList.map fun p => (p.1, a.eval p.2) := by simp
    refine ⟨_, .slice (some ⟨w.heap.size, 0, none⟩) len len, _, _, hQ, ?_, .cells h2 e fun ν' hν => ⟨_, _, len, hν, rfl, Nat.le_refl _, .inr rfl, rfl⟩⟩
    refine vrun ?_
    unfold Instr.buildSlice
    rw [rb (run_underlying hu w)]
    simp only
    rw [rb (ti.run_size w), if_neg (by omega)]
    by_cases h0 : len * ei.size = 0
    · rw [if_pos h0]
      have e0 : ((Array.range (len * ei.size)).map fun i => (#[] : Array Value)[i % (#[] : Array Value).size]!) = (Array.range (len * ei.size)).map fun i => z.cells[i % z.cells.size]! := by
        rw [h0]; simp
      simp only [Sem.run_bind, Sem.run_pure, Result.andThen_ok, e0]
      rw [hps, h1]
      rfl
    · rw [if_neg h0]
      simp only [Sem.run_bind, ti.run_zero w, Sem.run_pure, Result.andThen_ok]
      rw [hps, h1]
      rfl
  | makeMap t r =>
    cases r with
    | some r => exact hx.elim
    | none =>
      obtain ⟨i, hi, hQ⟩ := okO_some hx
      refine ⟨_, .map (some w.heap.size), _, 0, hQ, vrun rfl, push_size _ _, push_hold _ _, ⟨rfl, rfl, rfl, by first | exact Nat.le_refl _ | exact Nat.le_succ _⟩, fun ν' hle hν => ⟨⟨_, hν, rfl⟩, #[], push_last _ _, trivial⟩⟩
  | makeSlice t l m =>
    obtain ⟨e, hte, hx⟩ := okO_some hx
    obtain ⟨ei, hei, hx⟩ := okO_some hx
    obtain ⟨lv, hlv, hx⟩ := (X.kv_all _ _ _).1 hx
    obtain ⟨k1, ln, rfl, hx⟩ := (V.knat_all _ _ _).1 hx
    obtain ⟨mv, hmv, hx⟩ := (X.kv_all _ _ _).1 hx
    obtain ⟨k2, mn, rfl, hx⟩ := (V.knat_all _ _ _).1 hx
    obtain ⟨hg, hQ⟩ := (guardT_all _ _).1 hx
    simp only [Bool.and_eq_true] at hg
    have g1 := Nat.le_of_ble_eq_true hg.1.1
    have g2 := Nat.le_of_ble_eq_true hg.1.2
    have g3 := Nat.le_of_ble_eq_true hg.2
    have hu := elemT_some hc hte
    obtain ⟨d, inf, z, ti⟩ := tiok hc hei
    have e1 : z.cells.size = ei.size := by
      have := ti.zcells.2
      simpa using this
    have hz := rep_R (ti.zeroR ν) mn
    rw [e1] at hz
    have hb : inf.bytes = ei.bytes := by rw [ti.eq]
    have r1 : a.eval l = .int k1 (.ofNat ln) := (he l (by simp [Op.operands])).v hlv
    have r2 : a.eval m = .int k2 (.ofNat mn) := (he m (by simp [Op.operands])).v hmv
    refine ⟨_, .slice (some ⟨w.heap.size, 0, none⟩) ln mn, _, _, hQ, ?_, .cells hz e fun ν' hν => ⟨_, _, mn, hν, rfl, g1, .inr rfl, rfl⟩⟩
    refine vrun ?_
    have w1 := wrap_small (n := ln) (by omega)
    have w2 := wrap_small g3
    unfold Instr.makeSlice
    rw [rb (run_underlying hu w)]
    simp only
    rw [r1, r2, rb (s := asInt (.int k1 (.ofNat ln))) (a := Int.ofNat ln) (w1 := w) rfl, rb (s := asInt (.int k2 (.ofNat mn))) (a := Int.ofNat mn) (w1 := w) rfl, rb (ti.run_info w)]
    simp only [w1, w2, hb]
    have c1 : ¬ ((decide (Int.ofNat mn < 0) || decide (↑ei.bytes * Int.ofNat mn > 2 ^ 48)) = true) := by
      simp only [Bool.or_eq_true, decide_eq_true_eq, not_or]
      refine ⟨by simp, ?_⟩
      have : (↑ei.bytes * Int.ofNat mn : Int) = ↑(ei.bytes * mn) := by simp
      rw [this]; omega
    have c2 : ¬ ((decide (Int.ofNat ln < 0)) = true) := by simp
    have c3 : ¬ ((decide (Int.ofNat ln > Int.ofNat mn)) = true) := by simp; omega
    rw [if_neg (by simp only [Bool.or_eq_true, not_or]; exact ⟨⟨by simpa using c1, c2⟩, c3⟩)]
    simp only [Sem.run_bind, run_askRoom, Result.andThen_ok, ti.run_size w]
    by_cases h0 : mn * ei.size = 0
    · have e0 : ((Array.range 0).map fun i => z.cells[i % ei.size]!) = (Array.range 0).map fun i => (#[] : Array Value)[i % (#[] : Array Value).size]! := by simp
      simp only [Int.ofNat_eq_natCast, Int.toNat_natCast, h0, if_true, Sem.run_bind, Sem.run_pure, Result.andThen_ok, run_newRow, e0]
    · simp only [Int.ofNat_eq_natCast, Int.toNat_natCast, h0, if_false, Sem.run_pure, Result.andThen_ok, Sem.run_bind, ti.run_zero w, run_newRow, e1]
  | convert s d x =>
    obtain ⟨si, hsi, hx⟩ := okO_some hx
    obtain ⟨e, hte, hx⟩ := okO_some hx
    obtain ⟨hg, hx⟩ := (guardT_all _ _).1 hx
    obtain ⟨v, hv, hQ⟩ := (X.kv_all _ _ _).1 hx
    have hu := elemT_some hc hte
    have hu8 := isU8_some hc hg
    obtain ⟨d1, _, _, t1⟩ := tiok hc hsi
    cases v with
    | str st =>
      have hr : a.eval x = .string ⟨⟨st⟩⟩ := (he x (by simp [Op.operands])).v hv
      have hconv : (convert s d (a.eval x)).run P w = (Conv.stringToBytes e ⟨⟨st⟩⟩).run P w := by
        rw [hr]
        unfold convert
        rw [rb (t1.run_und w), rb (run_underlying hu w)]
        cases d1 <;> (simp only; rw [rb (run_underlying hu8 w)])
      obtain ⟨cap, hcap, hch⟩ : ∃ cap, st.length ≤ cap ∧ (choose (.appendCap st.length 0 e)).run P w = .ok cap { w with drawn := w.drawn + 1 } :=
        ⟨_, Nat.le_add_right _ _, by rw [run_choose]; rfl⟩
      have hz : LRel (VR ν) (st.map fun b => V.int .u8 (.ofNat b.toNat)) ((st.toArray.map fun b => Value.int .u8 b.toNat).toList) := by
        simp only [Array.toList_map, List.toList_toArray]
        clear hch hcap hQ hconv hr hv
        induction st with
        | nil => trivial
        | cons b l ih => exact ⟨rfl, ih⟩
      have hsz : ((st.toArray.map fun b => Value.int .u8 b.toNat) ++ Array.replicate (cap - st.length) (Value.int .u8 0)).size = cap := by
        simp; omega
      generalize hrow : (st.toArray.map fun b => Value.int .u8 b.toNat) ++ Array.replicate (cap - st.length) (Value.int .u8 0) = row at hsz
      refine ⟨_, .slice (some ⟨w.heap.size, 0, none⟩) st.length cap, { w with drawn := w.drawn + 1, heap := w.heap.push (.cells row e (cap, cap + 1)) }, cap, hQ, ?_, push_size _ _, push_hold _ _, ⟨rfl, rfl, rfl, by first | exact Nat.le_refl _ | exact Nat.le_succ _⟩, fun ν' hle hν => ⟨?_, ?_⟩⟩
      · refine vrun (hconv.trans ?_)
        unfold Conv.stringToBytes
        rw [show (⟨⟨st⟩⟩ : ByteArray).size = st.length from rfl, rb hch]
        have hrow' : (ByteArray.data ⟨⟨st⟩⟩).map (fun b => Value.int .u8 b.toNat) ++ Array.replicate (cap - st.length) (Value.int .u8 0) = row := hrow
        simp only [hrow']
        rw [rb (run_newRow e row)]
        have hms : (markStringish ⟨({ w with drawn := w.drawn + 1 } : World).heap.size, 0, none⟩).run P { w with drawn := w.drawn + 1, heap := w.heap.push (.cells row e (0, 0)) } =
            .ok () { w with drawn := w.drawn + 1, heap := w.heap.push (.cells row e (cap, cap + 1)) } := by
          unfold markStringish
          rw [rb (run_shape _ _ _)]
          have hsh : World.shape? { w with drawn := w.drawn + 1, heap := w.heap.push (.cells row e (0, 0)) } w.heap.size = some (e, cap) := by
            unfold World.shape?
            simp only [Array.getElem?_push_size, hsz]
          simp only [hsh, run_freeze, World.freeze, push_modify]
          simp
        rw [rb hms]
        rfl
      · exact ⟨_, _, cap, hν, rfl, hcap, .inr rfl, by rw [if_neg (by simp)]; exact ⟨hcap, by simp⟩⟩
      · refine ⟨row, e, (cap, cap + 1), push_last _ _, fun i y hy => ?_, fun _ => ⟨by simpa using hcap, by simp; omega, fun i hi => by
          have hi : i < cap := hi
          simp; omega⟩⟩
        obtain ⟨u, h1, h2⟩ := hz.get hy
        refine ⟨u, ?_, h2.mono hle⟩
        rw [← hrow, Nat.zero_add, ← Array.getElem?_toList, Array.toList_append]
        exact (List.getElem?_append_left (List.getElem?_eq_some_iff.1 h1).1).trans h1
    | _ => exact hQ.elim
  | _ => exact hx.elim
end
end Go.Abs

/- The theorem on operations that do something: cells written, maps, iterators. -/
namespace Go.Abs
open Go Go.RowKit

def setMany (c : Array Value) (o : Nat) : List Value → Array Value
  | [] => c
  | v :: r => setMany (c.setIfInBounds o v) (o + 1) r

theorem setMany_size : ∀ (vs : List Value) (c : Array Value) (o : Nat), (setMany c o vs).size = c.size
  | [], _, _ => rfl
  | v :: r, c, o => by rw [setMany, setMany_size r]; simp

theorem setMany_get : ∀ (vs : List Value) (c : Array Value) (o i : Nat), o + vs.length ≤ c.size → (setMany c o vs)[i]? = if o ≤ i ∧ i < o + vs.length then vs[i - o]? else c[i]?
  | [], c, o, i, h => by
    rw [setMany, if_neg (by simp only [List.length_nil]; omega)]
  | v :: r, c, o, i, h => by
    simp only [List.length_cons] at h
    rw [setMany, setMany_get r _ _ _ (by simp; omega), Array.getElem?_setIfInBounds]
    by_cases h1 : i = o
    · subst h1
      rw [if_neg (by omega), if_pos rfl, if_pos (by omega), if_pos (by simp)]
      simp
    · by_cases h2 : o ≤ i ∧ i < o + (r.length + 1)
      · rw [if_pos (by omega), if_pos (by simpa using h2), show i - o = (i - (o + 1)) + 1 by omega]
        simp
      · rw [if_neg (by omega), if_neg (fun e => h1 e.symm), if_neg (by simpa using h2)]

theorem setCells_heap (b : Nat) : ∀ (vs : List Value) (o : Nat) (w : World) (c : Array Value) (t : TypeId) (fr : Nat × Nat), w.heap[b]? = some (.cells c t fr) →
    (w.setCells b o vs).heap[b]? = some (.cells (setMany c o vs) t fr) ∧ (∀ k, k ≠ b → (w.setCells b o vs).heap[k]? = w.heap[k]?) ∧ (w.setCells b o vs).heap.size = w.heap.size ∧ SameRest w (w.setCells b o vs)
  | [], _, w, c, t, fr, h => ⟨h, fun _ _ => rfl, rfl, ⟨rfl, rfl, rfl, by first | exact Nat.le_refl _ | exact Nat.le_succ _⟩⟩
  | v :: r, o, w, c, t, fr, h => by
    have h1 : (w.setCell ⟨b, o, none⟩ v).heap[b]? = some (.cells (c.setIfInBounds o v) t fr) := by
      simp [World.setCell, Array.getElem?_modify, h]
    have h2 : ∀ k, k ≠ b → (w.setCell ⟨b, o, none⟩ v).heap[k]? = w.heap[k]? := fun k hk => by
      simp only [World.setCell, Array.getElem?_modify]
      rw [if_neg (fun e => hk e.symm)]
    have h3 : (w.setCell ⟨b, o, none⟩ v).heap.size = w.heap.size := by simp [World.setCell]
    obtain ⟨i1, i2, i3, i4⟩ := setCells_heap b r (o + 1) (w.setCell ⟨b, o, none⟩ v) _ t fr h1
    exact ⟨i1, fun k hk => (i2 k hk).trans (h2 k hk), i3.trans h3, ⟨i4.os, i4.tape, i4.output, i4.drawn⟩⟩

/-- What an operation gives. -/
def nextR (ν : Ren) (x : X) : Next → Prop
  | .value v => XR ν x v
  | .skip => x = undefX
  | _ => False

section
variable {K : CodeP} {B : Base} {w0 w : World} {ν : Ren} {h : H} {P : Program} {c : Ctx} (hc : CtxOk P c)

def Does (K : CodeP) (B : Base) (w0 : World) (P : Program) (ν : Ren) (h : H) (w : World) (Q : X × H → Prop) (s : Sem Next) : Prop :=
  ∃ x h' n ν' w', Q (x, h') ∧ s.run P w = .ok n w' ∧ nextR ν' x n ∧ HR K B w0 ν' h' w' ∧ Ext ν h w ν' h' w'

theorem Does.unit {Q : X × H → Prop} {s : Sem Unit} {h' : H} {ν' : Ren} {w' : World} (hQ : Q (undefX, h')) (hs : s.run P w = .ok () w') (hr : HR K B w0 ν' h' w') (he : Ext ν h w ν' h' w') :
    Does K B w0 P ν h w Q (do s; pure .skip) := ⟨undefX, h', .skip, ν', w', hQ, by rw [rb hs]; rfl, rfl, hr, he⟩

theorem Does.val {Q : X × H → Prop} {s : Sem Value} {v : Value} {x : X} {h' : H} {ν' : Ren} {w' : World} (hQ : Q (x, h')) (hs : s.run P w = .ok v w') (hx : XR ν' x v) (hr : HR K B w0 ν' h' w') (he : Ext ν h w ν' h' w') :
    Does K B w0 P ν h w Q (do pure (.value (← s))) := ⟨x, h', .value v, ν', w', hQ, vrun hs, hx, hr, he⟩

theorem undef_XR (ν : Ren) : XR ν undefX (.tuple #[]) := ⟨#[], rfl, trivial⟩

theorem LRel.ones {vs : List V} {us : List Value} (h : LRel (VR ν) vs us) : ∀ u ∈ us, u.oneCell' = true := by
  intro u hu
  obtain ⟨i, hi⟩ := List.mem_iff_getElem?.1 hu
  obtain ⟨a, _, hr⟩ := h.get' hi
  exact hr.oneCell

theorem putCells_some {b o : Nat} {vs : List V} {h' : H} (hp : putCells h b o vs = some h') : ∃ cs, h.get b = some (.cells cs false) ∧ o + vs.length ≤ cs.length ∧ h' = h.put b (.cells (setAt cs o vs) false) := by
  unfold putCells at hp
  split at hp
  · rename_i cs hg
    cases hb : Nat.ble (o + vs.length) cs.length with
    | false => rw [hb] at hp; cases hp
    | true =>
      rw [hb] at hp
      cases hp
      exact ⟨cs, hg, Nat.le_of_ble_eq_true hb, rfl⟩
  · cases hp

/-- Cells are written. -/
theorem HR.store (hr : HR K B w0 ν h w) {b o : Nat} {vs : List V} {us : List Value} {h' : H} {l : Loc} (hp : putCells h b o vs = some h') (hl : ν b = some l) (hv : LRel (VR ν) vs us) :
    ∃ w', (storeCells ⟨l.blk, l.base + o, none⟩ us).run P w = .ok () w' ∧ HR K B w0 ν h' w' ∧ Ext ν h w ν h' w' := by
  obtain ⟨cs, hg, hle, rfl⟩ := putCells_some hp
  obtain ⟨cc, t, fr, h1, h2, h3⟩ := hr.obj b _ l hg hl
  obtain ⟨h4, h5, h6⟩ := h3 rfl
  have hlen := hv.length
  have hst := run_storeCells_cells (P := P) l.blk (l.base + o) us 0 w (fun j hj => by
      have hlt : o + j < cs.length := by omega
      obtain ⟨v, hv1, _⟩ := hr.cells (b := b) (cs := cs) (by simp [getCells, hg]) hl (o + j) cs[o + j] (List.getElem?_eq_getElem hlt)
      rw [show l.base + o + 0 + j = l.base + (o + j) by omega, hv1]; rfl) (fun j hj => by
      have := h6 (o + j) (by omega)
      simp only [World.frozen?, h1, Bool.and_eq_false_iff, decide_eq_false_iff_not]
      by_cases hf : fr.1 ≤ l.base + (o + j)
      · right; intro hh; exact this ⟨hf, by simp at hh; omega⟩
      · left; simp; omega) hv.ones
  rw [Nat.add_zero] at hst
  obtain ⟨g1, g2, g3, g4⟩ := setCells_heap l.blk us (l.base + o) w cc t fr h1
  refine ⟨_, hst, hr.put hg hl rfl rfl g2 g3 g4 ⟨_, t, fr, g1, fun i x hx => ?_, fun _ => ⟨?_, ?_, h6⟩⟩⟩
  · rw [setMany_get us cc (l.base + o) (l.base + i) (by omega)]
    unfold setAt at hx
    rw [splice_get cs vs o i hle] at hx
    split at hx
    · rename_i hi
      obtain ⟨u, hu1, hu2⟩ := hv.get hx
      rw [if_pos (by omega), show l.base + i - (l.base + o) = i - o by omega]
      exact ⟨u, hu1, hu2⟩
    · rename_i hi
      rw [if_neg (by omega)]
      exact h2 i x hx
  · unfold setAt
    simp only [List.length_append, List.length_take, List.length_drop]
    omega
  · rw [setMany_size]; exact h5

theorem putOver_some {b o : Nat} {vs : List V} {h' : H} (hp : putOver h b o vs = some h') : ∃ cs, h.get b = some (.cells cs false) ∧ o ≤ cs.length ∧ h' = h.put b (.cells (setAt cs o vs) false) := by
  unfold putOver at hp
  split at hp
  · rename_i cs hg
    cases hb : Nat.ble o cs.length with
    | true => rw [hb] at hp; cases hp; exact ⟨cs, hg, Nat.le_of_ble_eq_true hb, rfl⟩
    | false => rw [hb] at hp; cases hp
  · cases hp

theorem splice_over {α : Type} (l us : List α) (o i : Nat) (h : o ≤ l.length) :
    (l.take o ++ us ++ l.drop (o + us.length))[i]? = if o ≤ i ∧ i < o + us.length then us[i - o]? else l[i]? := by
  by_cases h1 : i < o
  · rw [if_neg (by omega), List.append_assoc, List.getElem?_append_left (by simp; omega), List.getElem?_take, if_pos h1]
  · by_cases h2 : i < o + us.length
    · rw [if_pos ⟨by omega, h2⟩, List.getElem?_append_left (by simp; omega), List.getElem?_append_right (by simp; omega)]
      congr 1
      simp
      omega
    · rw [if_neg (by omega), List.getElem?_append_right (by simp; omega), List.getElem?_drop]
      congr 1
      simp
      omega

/-- Cells are written, beyond those that are known too, where the block has room. -/
theorem HR.storeOver (hr : HR K B w0 ν h w) {b o : Nat} {vs : List V} {us : List Value} {h' : H} {l : Loc} (hp : putOver h b o vs = some h') (hl : ν b = some l) (hv : LRel (VR ν) vs us) (hroom : o + vs.length ≤ l.tot) :
    ∃ w', (storeCells ⟨l.blk, l.base + o, none⟩ us).run P w = .ok () w' ∧ HR K B w0 ν h' w' ∧ Ext ν h w ν h' w' := by
  obtain ⟨cs, hg, hle, rfl⟩ := putOver_some hp
  obtain ⟨cc, t, fr, h1, h2, h3⟩ := hr.obj b _ l hg hl
  obtain ⟨h4, h5, h6⟩ := h3 rfl
  have hlen := hv.length
  have hst := run_storeCells_cells (P := P) l.blk (l.base + o) us 0 w (fun j hj => by
      have hlt2 : l.base + o + 0 + j < cc.size := by omega
      simp only [World.cell?, h1]
      simp [hlt2]
      omega) (fun j hj => by
      have := h6 (o + j) (by omega)
      simp only [World.frozen?, h1, Bool.and_eq_false_iff, decide_eq_false_iff_not]
      by_cases hf : fr.1 ≤ l.base + (o + j)
      · right; intro hh; exact this ⟨hf, by simp at hh; omega⟩
      · left; simp; omega) hv.ones
  rw [Nat.add_zero] at hst
  obtain ⟨g1, g2, g3, g4⟩ := setCells_heap l.blk us (l.base + o) w cc t fr h1
  refine ⟨_, hst, hr.put hg hl rfl rfl g2 g3 g4 ⟨_, t, fr, g1, fun i x hx => ?_, fun _ => ⟨?_, ?_, h6⟩⟩⟩
  · rw [setMany_get us cc (l.base + o) (l.base + i) (by omega)]
    unfold setAt at hx
    rw [splice_over cs vs o i hle] at hx
    split at hx
    · rename_i hi
      obtain ⟨u, hu1, hu2⟩ := hv.get hx
      rw [if_pos (by omega), show l.base + i - (l.base + o) = i - o by omega]
      exact ⟨u, hu1, hu2⟩
    · rename_i hi
      rw [if_neg (by omega)]
      exact h2 i x hx
  · unfold setAt
    simp only [List.length_append, List.length_take, List.length_drop]
    omega
  · rw [setMany_size]; exact h5

/-! ### Maps -/
theorem run_setObj {r : Nat} {ob : Obj} (hb : w.heap[r]? = some ob) (hn : ∀ cc t f, ob ≠ .cells cc t f) (o' : Obj) : (setObj r o').run P w = .ok () { w with heap := w.heap.setIfInBounds r o' } := by
  cases ob with
  | cells cc t f => exact absurd rfl (hn cc t f)
  | _ => simp [setObj, Sem.run, hb]

theorem HR.putObj (hr : HR K B w0 ν h w) {b : Nat} {o o' : O} {l : Loc} {ob : Obj} (hb : h.get b = some o) (hl : ν b = some l) (hw : writable o = true) (hw' : writable o' = true)
    (ho : OR K ν l { w with heap := w.heap.setIfInBounds l.blk ob } o') :
    HR K B w0 ν (h.put b o') { w with heap := w.heap.setIfInBounds l.blk ob } ∧ Ext ν h w ν (h.put b o') { w with heap := w.heap.setIfInBounds l.blk ob } :=
  hr.put hb hl hw hw' (fun k hk => by
    show (w.heap.setIfInBounds l.blk ob)[k]? = _
    rw [Array.getElem?_setIfInBounds, if_neg (fun e => hk e.symm)]) (by simp) ⟨rfl, rfl, rfl, by first | exact Nat.le_refl _ | exact Nat.le_succ _⟩ ho

theorem set_here {r : Nat} (hr : r < w.heap.size) (ob : Obj) : ({ w with heap := w.heap.setIfInBounds r ob } : World).heap[r]? = some ob := by
  show (w.heap.setIfInBounds r ob)[r]? = _
  rw [Array.getElem?_setIfInBounds, if_pos rfl, if_pos hr]

theorem setNth_R {k v : Y} {vk vv : Value} (hk : YR ν k vk) (hv : YR ν v vv) : ∀ {es : List (Y × Y × Nat)} {es' : List MapEntry} (i : Nat), LRel (EntR ν) es es' →
    LRel (EntR ν) (setNth es i k v) (es'.modify i fun e => { e with key := vk, val := vv })
  | [], [], _, _ => by simp [setNth, LRel]
  | e :: es, e' :: es', 0, h => by
    simp only [setNth, List.modify_zero_cons]
    exact ⟨⟨hk, hv, h.1.2.2⟩, h.2⟩
  | e :: es, e' :: es', i + 1, h => by
    simp only [setNth, List.modify_succ_cons]
    exact ⟨h.1, setNth_R hk hv i h.2⟩
  | [], _ :: _, _, h => h.elim
  | _ :: _, [], _, h => h.elim

theorem LRel.eraseIdx {α β : Type} {R : α → β → Prop} : ∀ {l : List α} {m : List β} (i : Nat), LRel R l m → LRel R (l.eraseIdx i) (m.eraseIdx i)
  | [], [], _, _ => by simp [LRel]
  | _ :: _, _ :: _, 0, h => h.2
  | _ :: _, _ :: _, i + 1, h => ⟨h.1, LRel.eraseIdx i h.2⟩
  | [], _ :: _, _, h => h.elim
  | _ :: _, [], _, h => h.elim

include hc in
theorem HR.mapUpdate (hr : HR K B w0 ν h w) {t : Nat} {m : V} {k v : Y} {h' : H} (hx : mapUpdateOp c h t m k v = some h') {vm vk vv : Value} (hm : VR ν m vm) (hk : YR ν k vk) (hv : YR ν v vv) :
    ∃ w', (Instr.mapUpdate t vm vk vv).run P w = .ok () w' ∧ HR K B w0 ν h' w' ∧ Ext ν h w ν h' w' := by
  unfold mapUpdateOp at hx
  split at hx
  · rename_i b
    simp only [Option.bind_eq_some_iff, Option.map_eq_some_iff] at hx
    obtain ⟨ke, hke, p, hp, r, hf, rfl⟩ := hx
    have hu := mapT_some hc hke
    obtain ⟨l, hl, rfl⟩ := hm
    have hg := getMap_some hp
    obtain ⟨es', h1, h2⟩ := hr.obj b _ l hg hl
    have hlt := hr.lt hg hl
    obtain ⟨hck, r', hfk, hhit⟩ := findAt_run (w := w) hc hf hk h2
    cases r with
    | none =>
      cases r' with
      | some _ => exact hhit.elim
      | none =>
        refine ⟨_, ?_, hr.putObj hg hl rfl rfl (ob := .map (es'.push { key := vk, val := vv, born := p.2 }) (p.2 + 1)) ?_⟩
        · unfold Instr.mapUpdate
          rw [rb (run_underlying hu w)]
          simp only
          rw [rb (MapKept.run_getObj_map h1)]
          simp only
          rw [rb (hck _), rb hfk]
          exact run_setObj h1 (by simp) _
        · refine ⟨_, set_here hlt _, ?_⟩
          rw [Array.toList_push]
          exact h2.append ⟨⟨hk, hv, rfl⟩, trivial⟩
    | some q =>
      cases r' with
      | none => exact hhit.elim
      | some q' =>
        obtain ⟨e1, e2, _, e', he', _, hsame⟩ := hhit
        rw [Nat.sub_zero] at he'
        refine ⟨_, ?_, hr.putObj hg hl rfl rfl (ob := .map (es'.modify q'.1 fun e => { e with key := vk, val := vv }) p.2) ?_⟩
        · unfold Instr.mapUpdate
          rw [rb (run_underlying hu w)]
          simp only
          rw [rb (MapKept.run_getObj_map h1)]
          simp only
          rw [rb (hck _), rb hfk]
          simp only
          have hkt : (Instr.keyThatStays (((es'[q'.1]?).map (·.key)).getD vk) vk).run P w = .ok vk w := by
            rw [← e1, ← Array.getElem?_toList, he']
            unfold Instr.keyThatStays
            simp only [Option.map_some, Option.getD_some, hsame, if_true]
            rfl
          rw [rb hkt]
          exact run_setObj h1 (by simp) _
        · refine ⟨_, set_here hlt _, ?_⟩
          rw [Array.toList_modify, ← e1]
          exact setNth_R hk hv _ h2
  · cases hx

include hc in
theorem HR.delete (hr : HR K B w0 ν h w) {t : Nat} {ts : List TypeId} {ty : TypeId} {m : V} {k : Y} {h' : H} (hx : deleteOp c h t m k = some h') {vm vk : Value} (hm : VR ν m vm) (hk : YR ν k vk) :
    ∃ w', (Builtin.delete_ ⟨t :: ts⟩ ty ⟨[vm, vk]⟩).run P w = .ok (.tuple #[]) w' ∧ HR K B w0 ν h' w' ∧ Ext ν h w ν h' w' := by
  unfold deleteOp at hx
  split at hx
  · rename_i b
    simp only [Option.bind_eq_some_iff, Option.map_eq_some_iff] at hx
    obtain ⟨ke, hke, p, hp, r, hf, rfl⟩ := hx
    have hu := mapT_some hc hke
    obtain ⟨l, hl, rfl⟩ := hm
    have hg := getMap_some hp
    obtain ⟨es', h1, h2⟩ := hr.obj b _ l hg hl
    have hlt := hr.lt hg hl
    obtain ⟨hck, r', hfk, hhit⟩ := findAt_run (w := w) hc hf hk h2
    cases r with
    | none =>
      cases r' with
      | some _ => exact hhit.elim
      | none =>
        have hw : w.heap.setIfInBounds l.blk (.map es' p.2) = w.heap := by
          apply Array.ext_getElem?
          intro i
          rw [Array.getElem?_setIfInBounds]
          split
          · rename_i e; subst e; rw [h1]
          · rfl
        refine ⟨{ w with heap := w.heap.setIfInBounds l.blk (.map es' p.2) }, ?_, hr.same hw ⟨rfl, rfl, rfl, by first | exact Nat.le_refl _ | exact Nat.le_succ _⟩, Ext.same hw⟩
        unfold Builtin.delete_
        simp only [List.getElem?_toArray, List.getElem?_cons_zero, List.getElem?_cons_succ]
        rw [rb (run_underlying hu w)]
        simp only
        rw [rb (MapKept.run_getObj_map h1)]
        simp only
        rw [rb (hck _), rb hfk]
        simp only
        rw [rb (run_setObj h1 (by simp) _)]
        rfl
    | some q =>
      cases r' with
      | none => exact hhit.elim
      | some q' =>
        obtain ⟨e1, e2, _, e', he', _, hsame⟩ := hhit
        refine ⟨_, ?_, hr.putObj hg hl rfl rfl (ob := .map (es'.eraseIdxIfInBounds q'.1) p.2) ?_⟩
        · unfold Builtin.delete_
          simp only [List.getElem?_toArray, List.getElem?_cons_zero, List.getElem?_cons_succ]
          rw [rb (run_underlying hu w)]
          simp only
          rw [rb (MapKept.run_getObj_map h1)]
          simp only
          rw [rb (hck _), rb hfk]
          simp only
          rw [rb (run_setObj h1 (by simp) _)]
          rfl
        · refine ⟨_, set_here hlt _, ?_⟩
          rw [Array.toList_eraseIdxIfInBounds, ← e1]
          exact h2.eraseIdx _
  · cases hx
end
end Go.Abs

/- The theorem on operations that do something: iterators, slices grown and copied. -/
namespace Go.Abs
open Go Go.RowKit

section
variable {K : CodeP} {B : Base} {w0 w : World} {ν : Ren} {h : H} {P : Program} {c : Ctx} (hc : CtxOk P c)

theorem LRel.filter {α β : Type} {R : α → β → Prop} {p : α → Bool} {q : β → Bool} (hpq : ∀ a b, R a b → p a = q b) : ∀ {l : List α} {m : List β}, LRel R l m → LRel R (l.filter p) (m.filter q)
  | [], [], _ => trivial
  | a :: l, b :: m, h => by
    rw [List.filter_cons, List.filter_cons, hpq a b h.1]
    split
    · exact ⟨h.1, LRel.filter hpq h.2⟩
    · exact LRel.filter hpq h.2
  | [], _ :: _, h => h.elim
  | _ :: _, [], h => h.elim

theorem LRel.find {α β : Type} {R : α → β → Prop} {p : α → Bool} {q : β → Bool} (hpq : ∀ a b, R a b → p a = q b) : ∀ {l : List α} {m : List β} {a : α}, LRel R l m → l.find? p = some a → ∃ b, m.find? q = some b ∧ R a b
  | [], [], _, _, h => by cases h
  | a :: l, b :: m, x, h, hf => by
    rw [List.find?_cons] at hf ⊢
    rw [← hpq a b h.1]
    cases hp : p a with
    | true => rw [hp] at hf; cases hf; exact ⟨b, rfl, h.1⟩
    | false => rw [hp] at hf; exact LRel.find hpq h.2 hf
  | [], _ :: _, _, h, _ => h.elim
  | _ :: _, [], _, h, _ => h.elim

theorem LRel.mem' {α β : Type} {R : α → β → Prop} {l : List α} {m : List β} (h : LRel R l m) {b : β} (hb : b ∈ m) : ∃ (i : Nat) (a : α), l[i]? = some a ∧ R a b := by
  obtain ⟨i, hi⟩ := List.mem_iff_getElem?.1 hb
  obtain ⟨a, h1, h2⟩ := h.get' hi
  exact ⟨i, a, h1, h2⟩

/-- A new block, laid for an iterator or a record. -/
theorem HR.newObj (hr : HR K B w0 ν h w) {o : O} (ob : Obj) (ho : ∀ w' : World, w'.heap[w.heap.size]? = some ob → OR K (ren ν h.next ⟨w.heap.size, 0, 0⟩) ⟨w.heap.size, 0, 0⟩ w' o) :
    (Go.newObj ob).run P w = .ok w.heap.size { w with heap := w.heap.push ob } ∧
    HR K B w0 (ren ν h.next ⟨w.heap.size, 0, 0⟩) (h.new o) { w with heap := w.heap.push ob } ∧ Ext ν h w (ren ν h.next ⟨w.heap.size, 0, 0⟩) (h.new o) { w with heap := w.heap.push ob } :=
  ⟨rfl, hr.lay rfl (push_hold _ _) (by rw [push_size]; omega) ⟨rfl, rfl, rfl, by first | exact Nat.le_refl _ | exact Nat.le_succ _⟩ (ho _ (push_last _ _))⟩

include hc in
theorem range_sound (hr : HR K B w0 ν h w) {Q : X × H → Prop} {t : Nat} {v : V} {vx : Value} (hv : VR ν v vx)
    (hx : (rangeOp c h t v).all Q) : Does K B w0 P ν h w Q (do pure (.value (← Instr.range t vx))) := by
  unfold rangeOp at hx
  obtain ⟨i, hi, hx⟩ := okO_some hx
  obtain ⟨d, inf, z, ti⟩ := tiok hc hi
  cases hd : i.d with
  | str =>
    rw [hd] at hx
    have e := ti.desc_str hd
    subst e
    cases v with
    | str s =>
      have e : vx = .string ⟨⟨s⟩⟩ := hv
      obtain ⟨h1, h2, h3⟩ := hr.newObj (P := P) (o := .siter s 0) (.stringIter ⟨⟨s⟩⟩ 0) fun w' hw => ⟨rfl, hw⟩
      refine .val (v := .pointer (some ⟨w.heap.size, 0, none⟩)) hx ?_ ⟨_, ren_self _ _ _, rfl⟩ h2 h3
      unfold Instr.range
      rw [rb (ti.run_und w), e]
      rfl
    | _ => exact hx.elim
  | map k e =>
    rw [hd] at hx
    have e0 := ti.desc_map hd
    subst e0
    cases v with
    | nilm =>
      have e : vx = .map none := hv
      obtain ⟨h1, h2, h3⟩ := hr.newObj (P := P) (o := .miter none 0 [] 0) (.mapIter none 0 #[] 0) fun w' hw => ⟨rfl, none, rfl, hw⟩
      refine .val (v := .pointer (some ⟨w.heap.size, 0, none⟩)) hx ?_ ⟨_, ren_self _ _ _, rfl⟩ h2 h3
      unfold Instr.range
      rw [rb (ti.run_und w), e]
      rfl
    | map m =>
      obtain ⟨p, hp, hx⟩ := okO_some hx
      obtain ⟨l, hl, e⟩ := hv
      obtain ⟨es', h4, _⟩ := hr.obj m _ l (getMap_some hp) hl
      obtain ⟨h1, h2, h3⟩ := hr.newObj (P := P) (o := .miter (some m) p.2 [] p.2) (.mapIter (some l.blk) p.2 #[] p.2) fun w' hw =>
        ⟨rfl, some l.blk, ⟨l, ren_le hr.free _ _ hl, rfl⟩, hw⟩
      refine .val (v := .pointer (some ⟨w.heap.size, 0, none⟩)) hx ?_ ⟨_, ren_self _ _ _, rfl⟩ h2 h3
      unfold Instr.range
      rw [rb (ti.run_und w), e]
      simp only
      rw [rb (MapKept.run_getObj_map h4)]
      rfl
    | _ => exact hx.elim
  | _ => rw [hd] at hx; exact hx.elim

theorem run_getObj {r : Nat} {ob : Obj} (hb : w.heap[r]? = some ob) (hn : ∀ cc t f, ob ≠ .cells cc t f) : (getObj r).run P w = .ok ob w := by
  cases ob with
  | cells cc t f => exact absurd rfl (hn cc t f)
  | _ => simp [getObj, Sem.run, hb]

theorem next_sound (hr : HR K B w0 ν h w) {Q : X × H → Prop} {b : Nat} {isStr : Bool} {ty : TypeId} {vx : Value} (hv : VR ν (.ptr b 0) vx)
    (hx : (nextOp h b isStr).all Q) : Does K B w0 P ν h w Q (do pure (.value (← Instr.next vx isStr ty))) := by
  unfold nextOp at hx
  obtain ⟨l, hl, e⟩ := hv
  cases hg : h.get b with
  | none => rw [hg] at hx; exact hx.elim
  | some o =>
    have hor := hr.obj b o l hg hl
    have hlt := hr.lt hg hl
    rw [hg] at hx
    cases o with
    | siter s pos =>
      obtain ⟨hi, hx2⟩ := (guardT_all _ _).1 hx
      clear hx
      subst hi
      obtain ⟨hb0, hh⟩ := hor
      have e : vx = .pointer (some ⟨l.blk, 0, none⟩) := by rw [e, hb0]; rfl
      subst e
      cases hs : s[pos]? with
      | none =>
        rw [hs] at hx2
        refine .val (v := .tuple #[.bool false]) hx2 ?_ ⟨_, rfl, rfl, trivial⟩ hr (Ext.refl _ _ _)
        unfold Instr.next
        simp only
        rw [rb (run_getObj hh (by simp))]
        have hn : ¬ pos < (⟨⟨s⟩⟩ : ByteArray).size := by
          have := List.getElem?_eq_none_iff.1 hs
          show ¬ pos < s.length
          omega
        simp only [if_neg hn]
        rfl
      | some _ =>
        rw [hs] at hx2
        have hlt2 : pos < (⟨⟨s⟩⟩ : ByteArray).size := (List.getElem?_eq_some_iff.1 hs).1
        obtain ⟨g1, g2⟩ := hr.putObj (o' := .siter s (pos + (Utf8.decode ⟨⟨s⟩⟩ pos).2)) hg hl rfl rfl (ob := .stringIter ⟨⟨s⟩⟩ (pos + (Utf8.decode ⟨⟨s⟩⟩ pos).2)) ⟨hb0, set_here hlt _⟩
        refine .val (v := .tuple #[.bool true, goInt pos, .int .i32 (Utf8.decode ⟨⟨s⟩⟩ pos).1]) hx2 ?_ ⟨_, rfl, rfl, rfl, rfl, trivial⟩ g1 g2
        unfold Instr.next
        simp only
        rw [rb (run_getObj hh (by simp))]
        simp only [if_pos hlt2]
        rw [rb (run_setObj hh (by simp) _)]
        rfl
    | miter m since seen last =>
      obtain ⟨hb0, m', hm, hh⟩ := hor
      have e : vx = .pointer (some ⟨l.blk, 0, none⟩) := by rw [e, hb0]; rfl
      subst e
      cases m with
      | none =>
        obtain ⟨hi, hx2⟩ := (guardT_all _ _).1 hx
        clear hx
        have hi : isStr = false := by simpa using hi
        subst hi
        subst hm
        refine .val (v := .tuple #[.bool false]) hx2 ?_ ⟨_, rfl, rfl, trivial⟩ hr (Ext.refl _ _ _)
        unfold Instr.next
        simp only
        rw [rb (run_getObj hh (by simp))]
        rfl
      | some m =>
        obtain ⟨hi, hx2⟩ := (guardT_all _ _).1 hx
        clear hx
        have hi : isStr = false := by simpa using hi
        subst hi
        obtain ⟨p, hp, hx⟩ := okO_some hx2
        clear hx2
        obtain ⟨hgd, hx3⟩ := (guardT_all _ _).1 hx
        clear hx
        simp only [Bool.and_eq_true] at hgd
        have q1 : p.2 = since := Nat.eq_of_beq_eq_true hgd.1.1
        have q2 : last = since := Nat.eq_of_beq_eq_true hgd.1.2
        subst q2
        obtain ⟨lm, hlm, rfl⟩ := hm
        obtain ⟨es', h4, h5⟩ := hr.obj m _ lm (getMap_some hp) hlm
        have hold : ∀ x ∈ es'.toList, x.born < last := by
          intro x hx
          obtain ⟨i, a, ha, hra⟩ := h5.mem' hx
          have := List.all_eq_true.1 hgd.2 a (List.mem_of_getElem? ha)
          rw [hra.2.2]
          exact (blt_iff _ _).1 this
        have hfl : LRel (EntR ν) (p.1.filter (fun e => !seen.elem e.2.2)) (leftOf es' seen.toArray).toList := by
          unfold leftOf
          rw [Array.toList_filter]
          exact h5.filter fun a b hab => by
            rw [hab.2.2]
            simp
        rcases run_next_at (P := P) w ty l.blk lm.blk last last seen.toArray es' p.2 hh h4 hold (Nat.le_refl _) with ⟨hz, hrun⟩ | ⟨e, he, w1, hw1, hrun⟩
        · have hnil : p.1.filter (fun e => !seen.elem e.2.2) = [] := by
            have := hfl.length
            have e3 : (leftOf es' seen.toArray).toList.length = 0 := by rw [Array.length_toList]; exact hz
            rw [e3] at this
            exact List.eq_nil_of_length_eq_zero this
          rw [hnil] at hx3
          exact .val (v := .tuple #[.bool false]) hx3 hrun ⟨_, rfl, rfl, trivial⟩ hr (Ext.refl _ _ _)
        · obtain ⟨i, a, ha, hra⟩ := hfl.mem' he
          cases hfil : p.1.filter (fun e => !seen.elem e.2.2) with
          | nil => rw [hfil] at ha; cases ha
          | cons x xs =>
            rw [hfil] at hx3 ha
            have hi : i < Nat.succ xs.length := by
              have := (List.getElem?_eq_some_iff.1 ha).1
              simpa using this
            have hx := hx3 i hi
            obtain ⟨a', ha', hx⟩ := okO_some hx
            rw [ha] at ha'
            cases ha'
            have hr1 : HR K B w0 ν h w1 := by
              rcases hw1 with rfl | rfl
              · exact hr
              · exact hr.same rfl ⟨rfl, rfl, rfl, by first | exact Nat.le_refl _ | exact Nat.le_succ _⟩
            have he1 : Ext ν h w ν h w1 := by
              rcases hw1 with rfl | rfl
              · exact Ext.refl _ _ _
              · exact Ext.same rfl
            have hh1 : w1.heap = w.heap := by rcases hw1 with rfl | rfl <;> rfl
            obtain ⟨g1, g2⟩ := hr1.putObj (o' := .miter (some m) last (seen ++ [a.2.2]) last) hg hl rfl rfl (ob := .mapIter (some lm.blk) last (seen.toArray.push e.born) p.2)
              ⟨hb0, some lm.blk, ⟨lm, hlm, rfl⟩, by rw [set_here (by rw [hh1]; exact hlt), q1, hra.2.2]; simp⟩
            exact .val (v := .tuple #[.bool true, e.key, e.val]) hx hrun ⟨_, rfl, rfl, hra.1, hra.2.1, trivial⟩ g1 (he1.trans hr.dom g2)
    | _ => exact hx.elim

theorem entry_sound (hr : HR K B w0 ν h w) {Q : X × H → Prop} {b : Nat} {vx : Value} (hv : VR ν (.ptr b 0) vx)
    (hx : (entryOp h b).all Q) : Does K B w0 P ν h w Q (do pure (.value (← Instr.entry vx))) := by
  unfold entryOp at hx
  obtain ⟨l, hl, e⟩ := hv
  cases hg : h.get b with
  | none => rw [hg] at hx; exact hx.elim
  | some o =>
    have hor := hr.obj b o l hg hl
    rw [hg] at hx
    cases o with
    | miter m since seen last =>
      cases m with
      | none => exact hx.elim
      | some m =>
        obtain ⟨hb0, m', hm, hh⟩ := hor
        have e : vx = .pointer (some ⟨l.blk, 0, none⟩) := by rw [e, hb0]; rfl
        subst e
        obtain ⟨p, hp, hx⟩ := okO_some hx
        obtain ⟨hgd, hx⟩ := (guardT_all _ _).1 hx
        simp only [Bool.and_eq_true] at hgd
        have q1 : p.2 = last := Nat.eq_of_beq_eq_true hgd.1
        obtain ⟨e, he, hx⟩ := okO_some hx
        obtain ⟨lm, hlm, rfl⟩ := hm
        obtain ⟨es', h4, h5⟩ := hr.obj m _ lm (getMap_some hp) hlm
        have hlast : seen.getLast? = some e.2.2 := by
          have := List.find?_some he
          simpa using (beq_iff_eq.1 this).symm
        have hb : seen.toArray.back? = some e.2.2 := by simpa using hlast
        obtain ⟨e', he', hre⟩ := h5.find (q := fun x => x.born == e.2.2) (fun a b hab => by
          rw [hlast, hab.2.2]
          simp) he
        refine .val (v := .tuple #[e'.key, e'.val]) hx ?_ ⟨_, rfl, hre.1, hre.2.1, trivial⟩ hr (Ext.refl _ _ _)
        unfold Instr.entry
        simp only
        rw [rb (run_getObj hh (by simp))]
        simp only [hb]
        rw [rb (run_getObj h4 (by simp))]
        simp only [q1, bne_self_eq_false, Bool.false_eq_true, if_false]
        rw [Array.find?_toList] at he'
        rw [he']
        rfl
    | _ => exact hx.elim

/-! ### Slices grown, copied, cleared -/
include hc in
theorem copy_sound (hr : HR K B w0 ν h w) {Q : X × H → Prop} {t e : Nat} {ts : List TypeId} {ty : TypeId} {d s : V} {vd vs : Value} (hte : elemT c t = some e) (hd : VR ν d vd) (hs : VR ν s vs)
    (hx : (copyOp c h e d s).all Q) : Does K B w0 P ν h w Q (do pure (.value (← Builtin.copy_ ⟨t :: ts⟩ ty ⟨[vd, vs]⟩))) := by
  unfold copyOp at hx
  obtain ⟨ei, hei, hx⟩ := okO_some hx
  obtain ⟨dl, hdl, hx⟩ := okO_some hx
  obtain ⟨sl, hsl, hx⟩ := okO_some hx
  obtain ⟨cs, hcs, hQ⟩ := okO_some hx
  clear hx
  have hu := elemT_some hc hte
  obtain ⟨dd, inf, z, ti⟩ := tiok hc hei
  obtain ⟨arr, h1, h2⟩ := hr.firstCells (P := P) hs hsl (Nat.min_le_left sl dl) hcs
  have hlen := lenOf_run (P := P) (w := w) hs hsl
  have hpre : ∀ (base : Option Addr) (cap : Nat), (Builtin.copy_ ⟨t :: ts⟩ ty ⟨[.slice base dl cap, vs]⟩).run P w =
      (do if let some a := base then storeCells a arr.toList
          pure (goInt (Nat.min sl dl)) : Sem Value).run P w := by
    intro base cap
    unfold Builtin.copy_
    simp only [List.getElem?_toArray, List.getElem?_cons_zero, List.getElem?_cons_succ]
    rw [rb (run_underlying hu w)]
    simp only
    rw [rb hlen, rb (ti.run_size w), rb (h1 w rfl)]
    cases base <;> rfl
  cases d with
  | nils =>
    cases hdl
    have e0 : vd = .slice none 0 0 := hd
    subst e0
    refine .val (v := goInt 0) hQ ?_ rfl hr (Ext.refl _ _ _)
    rw [hpre]
    simp
  | slice b o len cap opn =>
    cases hdl
    obtain ⟨l, a, cap', hl, rfl, hle, ha, hopn⟩ := hd
    rcases (bif_all _ _ _).1 hQ with ⟨h0, hQ⟩ | ⟨h0, hQ⟩
    · have h0 : Nat.min sl dl = 0 := Nat.eq_of_beq_eq_true h0
      refine .val (v := goInt 0) hQ ?_ rfl hr (Ext.refl _ _ _)
      rw [hpre]
      have : arr.toList = [] := by
        have e1 := h2.length
        rw [h0] at hcs
        have : cs = [] := by
          cases s with
          | nils => cases hcs; rfl
          | slice b o len cap opn =>
            simp only [Abs.firstCells, Option.bind_eq_some_iff] at hcs
            obtain ⟨cs0, _, h4⟩ := hcs
            obtain ⟨_, rfl⟩ := sub_some h4
            simp
          | str s => cases hcs; rfl
          | _ => cases hcs
        rw [this] at e1
        exact List.eq_nil_of_length_eq_zero e1.symm
      rw [this, h0]
      rfl
    · have h0 : Nat.min sl dl ≠ 0 := fun e => by rw [e] at h0; cases h0
      obtain ⟨h', hp, hQ⟩ := okO_some hQ
      have hpos : 0 < cap' := by
        have := Nat.min_le_right sl dl
        have : 0 < Nat.min sl dl := Nat.pos_of_ne_zero h0
        have := Nat.min_le_right sl dl
        show 0 < cap'
        have e3 : Nat.min sl dl ≤ dl := Nat.min_le_right sl dl
        omega
      obtain rfl := ha.resolve_left (by omega)
      obtain ⟨w', g1, g2, g3⟩ : ∃ w', (storeCells ⟨l.blk, l.base + o, none⟩ arr.toList).run P w = .ok () w' ∧ HR K B w0 ν h' w' ∧ Ext ν h w ν h' w' := by
        cases hb : Nat.beq opn 0 with
        | true => rw [hb] at hp; exact hr.store (P := P) hp hl h2
        | false =>
          rw [hb] at hp
          simp only [cond_false] at hp
          cases hb2 : (Nat.beq opn ei.size && Nat.beq cs.length (Nat.min sl dl * ei.size)) with
          | false => rw [hb2] at hp; cases hp
          | true =>
            rw [hb2] at hp
            simp only [Bool.and_eq_true] at hb2
            have e1 := Nat.eq_of_beq_eq_true hb2.1
            have e2 := Nat.eq_of_beq_eq_true hb2.2
            rw [if_neg (fun e => by rw [e] at hb; cases hb)] at hopn
            refine hr.storeOver (P := P) hp hl h2 ?_
            rw [e2, ← hopn.2, e1]
            have : Nat.min sl dl * ei.size ≤ cap' * ei.size := Nat.mul_le_mul_right _ (Nat.le_trans (Nat.min_le_right sl dl) hle)
            omega
      refine .val (v := goInt (Nat.min sl dl)) hQ ?_ rfl g2 g3
      rw [hpre]
      simp only
      rw [rb g1]
      rfl
  | _ => exact hQ.elim

include hc in
theorem clear_sound (hr : HR K B w0 ν h w) {Q : X × H → Prop} {t e : Nat} {ts : List TypeId} {ty : TypeId} {s : V} {vs : Value} (hte : elemT c t = some e) (hs : VR ν s vs)
    (hx : (clearOp c h e s).all Q) : Does K B w0 P ν h w Q (do pure (.value (← Builtin.clear_ ⟨t :: ts⟩ ty ⟨[vs]⟩))) := by
  have hu := elemT_some hc hte
  unfold clearOp at hx
  cases s with
  | nils =>
    have e0 : vs = .slice none 0 0 := hs
    subst e0
    refine .val (v := .tuple #[]) hx ?_ (undef_XR _) hr (Ext.refl _ _ _)
    unfold Builtin.clear_
    simp only [List.getElem?_toArray, List.getElem?_cons_zero]
    rw [rb (run_underlying hu w)]
    rfl
  | slice b o n cap opn =>
    obtain ⟨ei, hei, hx⟩ := okO_some hx
    obtain ⟨dd, inf, z, ti⟩ := tiok hc hei
    obtain ⟨l, a, cap', hl, rfl, hle, ha, _⟩ := hs
    rcases (bif_all _ _ _).1 hx with ⟨h0, hQ⟩ | ⟨h0, hQ⟩
    · have h0 : n = 0 := Nat.eq_of_beq_eq_true h0
      subst h0
      refine .val (v := .tuple #[]) hQ ?_ (undef_XR _) hr (Ext.refl _ _ _)
      unfold Builtin.clear_
      simp only [List.getElem?_toArray, List.getElem?_cons_zero]
      rw [rb (run_underlying hu w)]
      rfl
    · have h0 : n ≠ 0 := fun e => by rw [e] at h0; cases h0
      obtain ⟨h', hp, hQ⟩ := okO_some hQ
      obtain rfl := ha.resolve_left (by omega)
      have hz := zeroCells_R (ti.zeroR ν) n
      obtain ⟨w', g1, g2, g3⟩ := hr.store (P := P) hp hl hz
      refine .val (v := .tuple #[]) hQ ?_ (undef_XR _) g2 g3
      unfold Builtin.clear_
      simp only [List.getElem?_toArray, List.getElem?_cons_zero]
      rw [rb (run_underlying hu w)]
      cases n with
      | zero => exact absurd rfl h0
      | succ n =>
        simp only
        rw [rb (ti.run_zero w), rb g1]
        rfl
  | _ => exact hx.elim
end
end Go.Abs

/- The theorem on append. -/
namespace Go.Abs
open Go Go.RowKit

section
variable {K : CodeP} {B : Base} {w0 w : World} {ν : Ren} {h : H} {P : Program} {c : Ctx} (hc : CtxOk P c)

theorem sub_length {cs r : List V} {o n : Nat} (h : sub cs o n = some r) : r.length = n := by
  obtain ⟨hle, rfl⟩ := sub_some h
  simp; omega

include hc in
theorem isSeqT_some {t : Nat} (h : isSeqT c t = true) : (∃ e', P.underlying t = some (.slice e')) ∨ P.underlying t = some .string := by
  unfold isSeqT at h
  cases ht : c.ti.get t with
  | none => rw [ht] at h; cases h
  | some i =>
    rw [ht] at h
    simp only at h
    obtain ⟨d, _, _, ti⟩ := tiok hc ht
    cases hd : i.d with
    | slice e => exact .inl ⟨e, by rw [ti.und, ti.desc_slice hd]⟩
    | str => exact .inr (by rw [ti.und, ti.desc_str hd])
    | _ => rw [hd] at h; cases h

/-- A new block, of cells told and of more that are not. -/
theorem HR.layRow (hr : HR K B w0 ν h w) {cs : List V} {news rest : List Value} (hv : LRel (VR ν) cs news) (e : TypeId) (row : Array Value) (hrow : row.toList = news ++ rest) {w' : World}
    (hw : w' = w.drew.alloc (.cells row e)) :
    HR K B w0 (ren ν h.next ⟨w.heap.size, 0, row.size⟩) (h.new (.cells cs false)) w' ∧ Ext ν h w (ren ν h.next ⟨w.heap.size, 0, row.size⟩) (h.new (.cells cs false)) w' := by
  subst hw
  have hh : (w.drew.alloc (.cells row e)).heap = w.heap.push (.cells row e) := rfl
  refine hr.lay rfl (fun k hk => ?_) (by rw [hh]; simp) ⟨rfl, rfl, rfl, by first | exact Nat.le_refl _ | exact Nat.le_succ _⟩ ⟨row, e, (0, 0), ?_, fun i x hx => ?_, fun _ => ⟨?_, by simp, fun i _ hi => by simp at hi⟩⟩
  · rw [hh, Array.getElem?_push, if_neg (by omega)]
  · rw [hh]; simp
  · obtain ⟨v, h1, h2⟩ := hv.get hx
    refine ⟨v, ?_, h2.mono (ren_le hr.free)⟩
    rw [Nat.zero_add, ← Array.getElem?_toList, hrow]
    exact (List.getElem?_append_left (List.getElem?_eq_some_iff.1 h1).1).trans h1
  · have e1 := hv.length
    have e2 : row.toList.length = news.length + rest.length := by rw [hrow]; simp
    rw [Array.length_toList] at e2
    show cs.length ≤ row.size
    omega

theorem isRW_some {b : Nat} (h1 : isRW h b = true) : ∃ cs, h.get b = some (.cells cs false) := by
  unfold isRW at h1
  split at h1
  · rename_i cs hg; exact ⟨cs, hg⟩
  · cases h1

/-- What is appended: how the operation runs. -/
structure SrcOk (P : Program) (t u ty e : TypeId) (inf : TypeInfo) (z vx : Value) (n : Nat) (news : List Value) (w : World) : Prop where
  none : n = 0 → (Builtin.append_ ⟨[t, u]⟩ ty ⟨[.slice none 0 0, vx]⟩).run P w = .ok (.slice none 0 0) w
  room : ∀ a sLen sCap w1, sLen + n ≤ sCap → (storeCells (Addr.add a (sLen * inf.size)) news).run P w = .ok () w1 → (Builtin.append_ ⟨[t, u]⟩ ty ⟨[.slice (some a) sLen sCap, vx]⟩).run P w = .ok (.slice (some a) (sLen + n) sCap) w1
  grow : ∀ base sLen sCap (olds : List Value), (Builtin.firstCells inf.size sLen (.slice base sLen sCap)).run P w.drew = .ok olds.toArray w.drew → sCap < sLen + n → (sLen + n) * inf.bytes ≤ 140737488355328 → sLen + n ≤ 140737488355328 → 1 ≤ inf.size →
    (Builtin.append_ ⟨[t, u]⟩ ty ⟨[.slice base sLen sCap, vx]⟩).run P w = .ok (.slice (some ⟨w.heap.size, 0, Option.none⟩) (sLen + n) (grownCap w (sLen + n) sCap e))
        (w.drew.alloc (.cells ((olds ++ news).toArray ++ Builtin.zeroCells z.cells (grownCap w (sLen + n) sCap e - (sLen + n))) e))

theorem appendTo_sound (hr : HR K B w0 ν h w) {Q : X × H → Prop} {t u e : Nat} {ty : TypeId} {s : V} {vs vx : Value} {ei : TI} {dd : TypeDesc} {inf : TypeInfo} {z : Value} (ti : TIok P e ei dd inf z)
    {n : Nat} {new : List V} {arr : Array Value} (h2 : LRel (VR ν) new arr.toList) (hlen : new.length = n * ei.size) (src : SrcOk P t u ty e inf z vx n arr.toList w) (hs : VR ν s vs)
    (hQ : (appendTo h ei s n new).all Q) : Does K B w0 P ν h w Q (do pure (.value (← Builtin.append_ ⟨[t, u]⟩ ty ⟨[vs, vx]⟩))) := by
  have hsz : ei.size = inf.size := by rw [ti.eq]
  have hby : ei.bytes = inf.bytes := by rw [ti.eq]
  have hal : arr.toList.length = n * ei.size := by rw [← h2.length, hlen]
  /- A new row. -/
  have grow : ∀ (base : Option Addr) (sLen sCap : Nat) (old : List V) (olds : List Value), vs = .slice base sLen sCap → LRel (VR ν) old olds → olds.length = sLen * ei.size →
      ((Builtin.firstCells inf.size sLen (.slice base sLen sCap)).run P w.drew = .ok olds.toArray w.drew) → sCap < sLen + n → (sLen + n) * ei.bytes ≤ maxGrow → 1 ≤ ei.bytes → 1 ≤ ei.size →
      ∃ cap' row w', (Builtin.append_ ⟨[t, u]⟩ ty ⟨[vs, vx]⟩).run P w = .ok (.slice (some ⟨w.heap.size, 0, none⟩) (sLen + n) cap') w' ∧ sLen + n ≤ cap' ∧ row.size = cap' * ei.size ∧
        w' = w.drew.alloc (.cells row e) ∧ ∃ rest, row.toList = (olds ++ arr.toList) ++ rest := by
    intro base sLen sCap old olds hvs hold hol hfc hlt hb hb1 hs1
    subst hvs
    have hb2 : (sLen + n) * inf.bytes ≤ 140737488355328 := by rw [← hby]; exact hb
    have hsm : sLen + n ≤ 140737488355328 := Nat.le_trans (Nat.le_mul_of_pos_right _ (by omega)) hb2
    have hrun := src.grow base sLen sCap olds hfc hlt hb2 hsm (by omega)
    have hcap : sLen + n ≤ grownCap w (sLen + n) sCap e := by
      unfold grownCap
      simp [Question.cut]
    have hzs : z.cells.size = ei.size := by
      have := ti.zcells.2
      simpa using this
    refine ⟨_, _, _, hrun, hcap, ?_, rfl, (Builtin.zeroCells z.cells (grownCap w (sLen + n) sCap e - (sLen + n))).toList, by simp⟩
    simp only [Array.size_append, List.size_toArray, List.length_append, hol, hal, Builtin.zeroCells, Array.size_map, Array.size_range, hzs]
    rw [← Nat.add_mul, ← Nat.add_mul]
    congr 1
    omega
  cases s with
  | nils =>
    have e0 : vs = .slice none 0 0 := hs
    rcases (bif_all _ _ _).1 hQ with ⟨h0, hQ⟩ | ⟨h0, hQ⟩
    · have h0 : n = 0 := Nat.eq_of_beq_eq_true h0
      subst h0
      subst e0
      refine .val (v := .slice none 0 0) hQ ?_ rfl hr (Ext.refl _ _ _)
      exact src.none rfl
    · have h0 : n ≠ 0 := fun e => by rw [e] at h0; cases h0
      obtain ⟨hg, hQ⟩ := (guardT_all _ _).1 hQ
      simp only [Bool.and_eq_true] at hg
      obtain ⟨cap', row, w', g1, g2, g3, g4, rest, g5⟩ := grow none 0 0 [] [] e0 trivial (by simp) rfl (by omega) (by rw [Nat.zero_add]; exact Nat.le_of_ble_eq_true hg.1.1) (Nat.le_of_ble_eq_true hg.1.2) (Nat.le_of_ble_eq_true hg.2)
      rw [Nat.zero_add] at g1 g2
      obtain ⟨k1, k2⟩ := hr.layRow h2 e row (rest := rest) (by simpa using g5) g4
      have hs1 := Nat.le_of_ble_eq_true hg.2
      refine .val hQ g1 ⟨_, _, cap', ren_self _ _ _, rfl, g2, .inr rfl, ?_⟩ k1 k2
      rw [if_neg (by omega)]
      exact ⟨g2, by simp [g3]⟩
  | slice b o len cap opn =>
    obtain ⟨l, a, cap', hl, e0, hle, ha, hcap⟩ := hs
    have hge : cap ≤ cap' := by
      by_cases ho : opn = 0
      · rw [if_pos ho] at hcap; omega
      · rw [if_neg ho] at hcap; exact hcap.1
    rcases (bif_all _ _ _).1 hQ with ⟨hin, hQ⟩ | ⟨hin, hQ⟩
    · have hin := Nat.le_of_ble_eq_true hin
      rcases (bif_all _ _ _).1 hQ with ⟨h0, hQ⟩ | ⟨h0, hQ⟩
      · have h0 : n = 0 := Nat.eq_of_beq_eq_true h0
        subst h0
        refine .val hQ ?_ ⟨l, a, cap', hl, rfl, hle, ha, hcap⟩ hr (Ext.refl _ _ _)
        subst e0
        have hnil : arr.toList = [] := List.eq_nil_of_length_eq_zero (by rw [hal, Nat.zero_mul])
        exact src.room a len cap' w hle (by rw [hnil]; rfl)
      · have h0 : n ≠ 0 := fun e => by rw [e] at h0; cases h0
        obtain ⟨h', hp, hQ⟩ := okO_some hQ
        obtain rfl := ha.resolve_left (by omega)
        obtain ⟨w', hst, g2, g3⟩ := hr.store (P := P) hp hl h2
        have hroom : len + n ≤ cap' := by omega
        refine .val hQ (v := .slice (some ⟨l.blk, l.base + o, none⟩) (len + n) cap') ?_ ⟨l, _, cap', hl, rfl, hroom, .inr rfl, ?_⟩ g2 g3
        · subst e0
          rw [hsz, ← Nat.add_assoc] at hst
          exact src.room _ len cap' _ hroom (by rw [addr_add]; exact hst)
        · by_cases ho : opn = 0
          · rw [if_pos ho] at hcap ⊢; exact hcap
          · rw [if_neg ho] at hcap ⊢; exact hcap
    · obtain ⟨hg, hQ⟩ := (guardT_all _ _).1 hQ
      simp only [Bool.and_eq_true] at hg
      obtain ⟨cs, hcs, hQ⟩ := okO_some hQ
      obtain ⟨old, hold, hQ⟩ := okO_some hQ
      have g1 := Nat.le_of_ble_eq_true hg.1.1
      have g2 := Nat.le_of_ble_eq_true hg.1.2
      have g3 := Nat.le_of_ble_eq_true hg.2
      have hlt : cap < len + n := by
        rcases Nat.lt_or_ge cap (len + n) with hh | hh
        · exact hh
        · rw [Nat.ble_eq_true_of_le hh] at hin; cases hin
      have hsr : VR ν (.slice b o len cap opn) vs := ⟨l, a, cap', hl, e0, hle, ha, hcap⟩
      obtain ⟨oarr, o1, o2⟩ := hr.firstCells (P := P) (size := ei.size) (n := len) (k := len) hsr rfl (Nat.le_refl _) (by simp only [Abs.firstCells, hcs, Option.bind_some]; exact hold)
      have oal : oarr.toList.length = len * ei.size := by rw [← o2.length, sub_length hold]
      have hgrow : cap' < len + n → _ := fun hlt' => grow (some a) len cap' old oarr.toList e0 o2 oal (by rw [← hsz, ← e0]; simpa using o1 w.drew rfl) hlt' g1 g2 g3
      rcases (bif_all _ _ _).1 hQ with ⟨h0, hQ⟩ | ⟨h0, hQ⟩
      · have h0 : opn = 0 := Nat.eq_of_beq_eq_true h0
        rw [if_pos h0] at hcap
        obtain ⟨cap2, row, w', k1, k2, k3, k4, rest, k5⟩ := hgrow (by omega)
        obtain ⟨m1, m2⟩ := hr.layRow (o2.append h2) e row (rest := rest) k5 k4
        refine .val hQ k1 ⟨_, _, cap2, ren_self _ _ _, rfl, k2, .inr rfl, ?_⟩ m1 m2
        rw [if_neg (by omega)]
        exact ⟨k2, by simp [k3]⟩
      · have h0 : opn ≠ 0 := fun e => by rw [e] at h0; cases h0
        obtain ⟨hg4, hQ4⟩ := (guardT_all _ _).1 hQ
        clear hQ
        simp only [Bool.and_eq_true] at hg4
        have ho := Nat.eq_of_beq_eq_true hg4.1
        subst ho
        rw [if_neg h0] at hcap
        obtain ⟨cs', hrw⟩ := isRW_some hg4.2
        by_cases hroom : len + n ≤ cap'
        · -- The old block goes on under a new name.
          obtain rfl := ha.resolve_left (by omega)
          obtain ⟨cc, tt, fr, q1, q2, q3⟩ := hr.obj b _ l hrw hl
          obtain ⟨q4, q5, q6⟩ := q3 rfl
          have hcs' : cs' = cs := by
            have : getCells h b = some cs' := by simp [getCells, hrw]
            rw [this] at hcs; cases hcs; rfl
          subst hcs'
          have hmul : (len + n) * ei.size ≤ cap' * ei.size := Nat.mul_le_mul_right _ hroom
          rw [Nat.add_mul] at hmul
          have htot : o + cap' * ei.size = l.tot := hcap.2
          have hst := run_storeCells_cells (P := P) l.blk (l.base + o + len * ei.size) arr.toList 0 w (fun j hj => by
              have hlt2 : l.base + o + len * ei.size + 0 + j < cc.size := by omega
              simp only [World.cell?, q1]
              simp [hlt2]
              omega) (fun j hj => by
              have := q6 (o + len * ei.size + j) (by omega)
              simp only [World.frozen?, q1, Bool.and_eq_false_iff, decide_eq_false_iff_not]
              by_cases hf : fr.1 ≤ l.base + (o + len * ei.size + j)
              · right; intro hh; exact this ⟨hf, by simp at hh; omega⟩
              · left; simp; omega) h2.ones
          rw [Nat.add_zero] at hst
          obtain ⟨r1, r2, r3, r4⟩ := setCells_heap l.blk arr.toList (l.base + o + len * ei.size) w cc tt fr q1
          obtain ⟨m1, m2⟩ := hr.move (l' := ⟨l.blk, l.base + o, cap' * ei.size⟩) (o' := .cells (old ++ new) false) hrw hl rfl rfl r2 r3 r4 (by
            refine ⟨_, tt, fr, r1, fun i y hy => ?_, fun _ => ⟨?_, ?_, fun i hi => ?_⟩⟩
            · have hol := sub_length hold
              rw [setMany_get arr.toList cc _ _ (by omega)]
              by_cases hi : i < len * ei.size
              · rw [List.getElem?_append_left (by omega)] at hy
                rw [if_neg (by simp; omega)]
                obtain ⟨_, hsub⟩ := sub_some hold
                rw [hsub, List.getElem?_take, if_pos hi, List.getElem?_drop] at hy
                obtain ⟨v, v1, v2⟩ := q2 (o + i) y hy
                exact ⟨v, by rw [← v1]; congr 1; simp; omega, v2.mono (ren_le hr.free)⟩
              · rw [List.getElem?_append_right (by omega), hol] at hy
                obtain ⟨v, v1, v2⟩ := h2.get hy
                have := (List.getElem?_eq_some_iff.1 v1).1
                have e9 : arr.toList.length = arr.size := by simp
                rw [if_pos (by simp; omega)]
                exact ⟨v, by rw [← v1]; congr 1; simp; omega, v2.mono (ren_le hr.free)⟩
            · have hol := sub_length hold
              simp only [List.length_append, hol, hlen]
              exact hmul
            · rw [setMany_size]
              show l.base + o + cap' * ei.size ≤ cc.size
              omega
            · have hi : i < cap' * ei.size := hi
              have := q6 (o + i) (by omega)
              intro hh
              exact this ⟨by have := hh.1; simp at this; omega, by have := hh.2; simp at this; omega⟩)
          refine .val hQ4 (v := .slice (some ⟨l.blk, l.base + o, none⟩) (len + n) cap') ?_ ⟨_, _, cap', ren_self _ _ _, rfl, hroom, .inr rfl, ?_⟩ m1 m2
          · subst e0
            exact src.room _ len cap' _ hroom (by rw [addr_add, ← hsz]; exact hst)
          · rw [if_neg h0]
            exact ⟨hroom, by simp⟩
        · obtain ⟨cap2, row, w', k1, k2, k3, k4, rest, k5⟩ := hgrow (by omega)
          obtain ⟨m1, m2⟩ := (hr.kill b).layRow (o2.append h2) e row (rest := rest) k5 k4
          refine .val hQ4 k1 ⟨_, _, cap2, ren_self _ _ _, rfl, k2, .inr rfl, ?_⟩ m1 ((Ext.kill hl).trans hr.dom m2)
          rw [if_neg (by omega)]
          exact ⟨k2, by simp [k3]⟩
  | _ => exact hQ.elim

include hc in
theorem append_sound (hr : HR K B w0 ν h w) {Q : X × H → Prop} {t u e : Nat} {ty : TypeId} {s x : V} {vs vx : Value} (hte : elemT c t = some e) (hsu : isSeqT c u = true) (hs : VR ν s vs) (hxv : VR ν x vx)
    (hx : (appendOp c h e s x).all Q) : Does K B w0 P ν h w Q (do pure (.value (← Builtin.append_ ⟨[t, u]⟩ ty ⟨[vs, vx]⟩))) := by
  unfold appendOp at hx
  obtain ⟨ei, hei, hx⟩ := okO_some hx
  obtain ⟨n, hn, hx⟩ := okO_some hx
  obtain ⟨new, hnew, hx⟩ := okO_some hx
  obtain ⟨hlen, hQ⟩ := (guardT_all _ _).1 hx
  clear hx
  have hlen := Nat.eq_of_beq_eq_true hlen
  have hu := elemT_some hc hte
  obtain ⟨dd, inf, z, ti⟩ := tiok hc hei
  have hsz : ei.size = inf.size := by rw [ti.eq]
  obtain ⟨arr, h1, h2⟩ := hr.firstCells (P := P) hxv hn (Nat.le_refl _) hnew
  have hal : arr.toList.length = n * ei.size := by rw [← h2.length, hlen]
  have src : Src P inf.size u vx n arr.toList w := by
    refine ⟨isSeqT_some hc hsu, fun w' => lenOf_run hxv hn, ?_, ?_, by rw [← hsz]; exact hal, h2.ones⟩
    · rw [← hsz]; simpa using h1 w rfl
    · rw [← hsz]; simpa using h1 w.drew rfl
  refine appendTo_sound hr ti h2 hlen ⟨fun h0 => ?_, fun a sLen sCap w1 hroom hst => ?_, fun base sLen sCap olds hfc hlt hb2 hsm _ => ?_⟩ hs hQ
  · subst h0
    rcases src.kind with ⟨e', hk⟩ | hk <;> simp [Builtin.append_, run_underlying hu, run_underlying hk, sizeOf, typeInfo, ti.info, src.len, src.cells]
  · rcases src.kind with ⟨e', hk⟩ | hk <;> simp [Builtin.append_, run_underlying hu, run_underlying hk, sizeOf, typeInfo, ti.info, src.len, src.cells, hroom, hst]
  · exact run_append_grow_src (P := P) w t u ty e inf z hu ti.info ti.zero base sLen sCap olds hfc vx n arr.toList src hlt (by omega) (growslice_fits hlt hb2)

include hc in
theorem made_sound (hr : HR K B w0 ν h w) {Q : X × H → Prop} {t u e : Nat} {ty : TypeId} {s x : V} {vs vx : Value} (hte : elemT c t = some e) (hsu : isIntT c u = true) (hs : VR ν s vs) (hxv : VR ν x vx)
    (hx : (appendMade c h e s x).all Q) : Does K B w0 P ν h w Q (do pure (.value (← Builtin.append_ ⟨[t, u]⟩ ty ⟨[vs, vx]⟩))) := by
  unfold appendMade at hx
  obtain ⟨ei, hei, hx⟩ := okO_some hx
  obtain ⟨kq, n, rfl, hx⟩ := (V.knat_all _ _ _).1 hx
  obtain ⟨hg, hQ⟩ := (guardT_all _ _).1 hx
  clear hx
  simp only [Bool.and_eq_true] at hg
  have g1 := Nat.le_of_ble_eq_true hg.1.1.1
  have g2 : n ≤ 140737488355328 := Nat.le_of_ble_eq_true hg.1.1.2
  have g3 : n * ei.bytes ≤ 140737488355328 := Nat.le_of_ble_eq_true hg.1.2
  have g4 := Nat.le_of_ble_eq_true hg.2
  have hu := elemT_some hc hte
  have htn : ∃ kn, P.underlying u = some (.int kn) := by
    unfold isIntT at hsu
    cases ht : c.ti.get u with
    | none => rw [ht] at hsu; cases hsu
    | some i =>
      rw [ht] at hsu
      simp only at hsu
      obtain ⟨d, _, _, ti⟩ := tiok hc ht
      cases hd : i.d with
      | int k => exact ⟨k, by rw [ti.und, ti.desc_int hd]⟩
      | _ => rw [hd] at hsu; cases hsu
  obtain ⟨kn, htn⟩ := htn
  obtain ⟨dd, inf, z, ti⟩ := tiok hc hei
  have hsz : ei.size = inf.size := by rw [ti.eq]
  have hby : ei.bytes = inf.bytes := by rw [ti.eq]
  have hxv : vx = .int kq (n : Int) := hxv
  subst hxv
  have hz := zeroCells_R (ti.zeroR ν) n
  have hw : IntKind.i64.wrap (n : Int) = n := by rw [IntKind.wrap_i64]; omega
  have h48i : ¬ (281474976710656 < (n : Int) * (inf.bytes : Int)) := by
    rw [← Int.natCast_mul, ← hby]
    omega
  have hneg : ¬ ((n : Int) < 0) := by omega
  have hns : ¬ (n * inf.size = 0) := Nat.mul_ne_zero (by omega) (by omega)
  refine appendTo_sound hr ti hz (by rw [rep_length, ti.zlen]) ⟨fun h0 => by omega, fun a sLen sCap w1 hroom hst => ?_, fun base sLen sCap olds hfc hlt hb2 hsm h1 => ?_⟩ hs hQ
  · simp [Builtin.append_, run_underlying hu, run_underlying htn, sizeOf, typeInfo, zeroValue, ti.info, ti.zero, asInt, asIntOf, hw, hroom, hneg, hns, h48i, hst]
  · have := Lib.run_append_grow_zeros (P := P) w t u ty e inf z kq kn hu htn ti.info ti.zero base sLen sCap olds hfc n g1 (by omega) hlt (by omega) (by rw [← hby]; omega) (growslice_fits hlt hb2)
    have e1 : (olds ++ (Builtin.zeroCells z.cells n).toList).toArray = olds.toArray ++ Builtin.zeroCells z.cells n := by
      apply Array.ext'
      simp
    rw [e1]
    exact this
end
end Go.Abs

/- The theorem on an operation that is no call of a function. -/
namespace Go.Abs
open Go Go.RowKit

def isCall : Op → Bool
  | .call c => match c.callee with
    | .builtin _ => false
    | _ => true
  | _ => false

section
variable {K : CodeP} {B : Base} {w0 w : World} {ν : Ren} {h : H} {P : Program} {c : Ctx} (hc : CtxOk P c)

theorem Gives.does (hr : HR K B w0 ν h w) {Q : X → Prop} {R : X × H → Prop} {s : Sem Next} (hg : Gives P ν w Q s) (hQ : ∀ x, Q x → R (x, h)) : Does K B w0 P ν h w R s := by
  obtain ⟨x, v, h1, h2, h3⟩ := hg
  exact ⟨x, h, .value v, ν, w, hQ x h1, h2, h3, hr, Ext.refl _ _ _⟩

theorem Laid.lay (hr : HR K B w0 ν h w) {x : V × O} {v : Value} {w' : World} {tot : Nat} (hl : Laid K ν w h.next x v w' tot) :
    VR (ren ν h.next ⟨w.heap.size, 0, tot⟩) x.1 v ∧ HR K B w0 (ren ν h.next ⟨w.heap.size, 0, tot⟩) (h.new x.2) w' ∧ Ext ν h w (ren ν h.next ⟨w.heap.size, 0, tot⟩) (h.new x.2) w' := by
  obtain ⟨h1, h2⟩ := hl.val _ (ren_le hr.free) (ren_self _ _ _)
  exact ⟨h1, hr.lay rfl hl.hold (by rw [hl.size]; omega) hl.rest h2⟩

include hc in
theorem builtin_sound (hr : HR K B w0 ν h w) {Q : X × H → Prop} {b : Builtin} {args : List Y} {ts : List Nat} {vs : List Value} {ty : TypeId} {cs : Array Bool} (hv : LRel (YR ν) args vs)
    (hx : (builtinOp c h b args ts).all Q) : Does K B w0 P ν h w Q (builtin b ⟨ts⟩ ty cs ⟨vs⟩) := by
  unfold builtinOp at hx
  split at hx
  · rename_i s x t u
    obtain ⟨e, hte, hx⟩ := okO_some hx
    match vs, hv with
    | [v1, v2], hv =>
      rcases (bif_all _ _ _).1 hx with ⟨hi, hQ⟩ | ⟨hi, hQ⟩
      · exact made_sound hc hr hte hi hv.1 hv.2.1 hQ
      · obtain ⟨hg, hQ⟩ := (guardT_all _ _).1 hQ
        exact append_sound hc hr hte hg hv.1 hv.2.1 hQ
    | [], hv => exact hv.elim
    | [_], hv => exact hv.2.elim
    | _ :: _ :: _ :: _, hv => exact hv.2.2.elim
  · rename_i d s t ts
    obtain ⟨e, hte, hx⟩ := okO_some hx
    match vs, hv with
    | [v1, v2], hv => exact copy_sound hc hr hte hv.1 hv.2.1 hx
    | [], hv => exact hv.elim
    | [_], hv => exact hv.2.elim
    | _ :: _ :: _ :: _, hv => exact hv.2.2.elim
  · rename_i m k t ts
    obtain ⟨h', hd, hx⟩ := okO_some hx
    match vs, hv with
    | [v1, v2], hv =>
      obtain ⟨w', h1, h2, h3⟩ := hr.delete (ts := ts) (ty := ty) hc hd hv.1 hv.2.1
      exact .val hx h1 (undef_XR _) h2 h3
    | [], hv => exact hv.elim
    | [_], hv => exact hv.2.elim
    | _ :: _ :: _ :: _, hv => exact hv.2.2.elim
  · rename_i s t ts
    obtain ⟨e, hte, hx⟩ := okO_some hx
    match vs, hv with
    | [v1], hv => exact clear_sound hc hr hte hv.1 hx
    | [], hv => exact hv.elim
    | _ :: _ :: _, hv => exact hv.2.elim
  · exact hx.elim

include hc in
theorem does_sound (hr : HR K B w0 ν h w) {r : Rec} {env : Env} {a : Act} {o : Oper} {Q : X × H → Prop} (he : EvR ν env a o.op.operands.toList) (hn : isCall o.op = false) (hx : (doesOp c r env h o.op).all Q) :
    Does K B w0 P ν h w Q (execOp a.eval o) := by
  obtain ⟨dst, op, type, pos, after, guard⟩ := o
  simp only at he hn hx
  cases op with
  | store t p x =>
    obtain ⟨v, hp, hx⟩ := (X.kv_all _ _ _).1 hx
    cases v with
    | ptr b off =>
      obtain ⟨y, hy, hx⟩ := (X.k_all _ _ _).1 hx
      obtain ⟨i, hi, hx⟩ := okO_some hx
      obtain ⟨hg, hx⟩ := (guardT_all _ _).1 hx
      obtain ⟨h', hpc, hQ⟩ := okO_some hx
      obtain ⟨d, inf, z, ti⟩ := tiok hc hi
      obtain ⟨l, hl, e⟩ := (he p (by simp [Op.operands])).v hp
      have hyr := (he x (by simp [Op.operands])).yy hy
      obtain ⟨w', h1, h2, h3⟩ := hr.store (P := P) hpc hl hyr.cells
      refine .unit hQ ?_ h2 h3
      have hlen := hyr.cells.length
      have hsz := Nat.eq_of_beq_eq_true hg
      have e9 : (a.eval x).cells.toList.length = (a.eval x).cells.size := by simp
      unfold Instr.storeAt
      rw [e, rb (s := Instr.sureAddr (.pointer (some ⟨l.blk, l.base + off, none⟩))) (a := ⟨l.blk, l.base + off, none⟩) (w1 := w) rfl]
      unfold storeVar
      rw [rb (ti.run_size w), if_neg (fun hq => hq (e9.symm.trans (hlen.symm.trans hsz)))]
      exact h1
    | _ => exact hx.elim
  | mapUpdate t m k x =>
    obtain ⟨mv, hm, hx⟩ := (X.kv_all _ _ _).1 hx
    obtain ⟨ky, hk, hx⟩ := (X.k_all _ _ _).1 hx
    obtain ⟨xy, hxy, hx⟩ := (X.k_all _ _ _).1 hx
    obtain ⟨h', hu, hQ⟩ := okO_some hx
    obtain ⟨w', h1, h2, h3⟩ := hr.mapUpdate hc hu ((he m (by simp [Op.operands])).v hm) ((he k (by simp [Op.operands])).yy hk) ((he x (by simp [Op.operands])).yy hxy)
    exact .unit hQ h1 h2 h3
  | insert t m k x =>
    obtain ⟨mv, hm, hx⟩ := (X.kv_all _ _ _).1 hx
    obtain ⟨ky, hk, hx⟩ := (X.k_all _ _ _).1 hx
    obtain ⟨xy, hxy, hx⟩ := (X.k_all _ _ _).1 hx
    obtain ⟨h', hu, hQ⟩ := okO_some hx
    obtain ⟨w', h1, h2, h3⟩ := hr.mapUpdate hc hu ((he m (by simp [Op.operands])).v hm) ((he k (by simp [Op.operands])).yy hk) ((he x (by simp [Op.operands])).yy hxy)
    exact .unit hQ h1 h2 h3
  | range t x =>
    obtain ⟨v, hv, hx⟩ := (X.kv_all _ _ _).1 hx
    exact range_sound hc hr ((he x (by simp [Op.operands])).v hv) hx
  | next x isStr =>
    obtain ⟨v, hv, hx⟩ := (X.kv_all _ _ _).1 hx
    cases v with
    | ptr b off =>
      cases off with
      | zero => exact next_sound hr ((he x (by simp [Op.operands])).v hv) hx
      | succ n => exact hx.elim
    | _ => exact hx.elim
  | entry x =>
    obtain ⟨v, hv, hx⟩ := (X.kv_all _ _ _).1 hx
    cases v with
    | ptr b off =>
      cases off with
      | zero => exact entry_sound hr ((he x (by simp [Op.operands])).v hv) hx
      | succ n => exact hx.elim
    | _ => exact hx.elim
  | call c' =>
    obtain ⟨callee, args, ats⟩ := c'
    obtain ⟨args⟩ := args
    obtain ⟨ats⟩ := ats
    cases callee with
    | value f => cases hn
    | invoke f m => cases hn
    | builtin b =>
      obtain ⟨ys, hys, hx⟩ := okO_some hx
      have hl := evArgs_R _ _ hys (fun x hx => he x (by simp [Op.operands, Call.operands]; exact hx))
      obtain ⟨csx, hex⟩ := exec_builtin a.eval dst b args ⟨ats⟩ type pos after guard
      rw [hex]
      exact builtin_sound hc hr hl hx
  | _ => exact hx.elim

include hc in
theorem run_sound (hr : HR K B w0 ν h w) {r : Rec} {env : Env} {a : Act} {o : Oper} {Q : X × H → Prop} (he : EvR ν env a o.op.operands.toList) (hn : isCall o.op = false) (hx : (runOp c r env h o.op).all Q) :
    Does K B w0 P ν h w Q (execOp a.eval o) := by
  unfold runOp at hx
  cases hk : kindOf c o.op with
  | calm =>
    rw [hk] at hx
    rw [T.all_bind] at hx
    exact (calm_sound hc he hx).does hr fun x hx => hx
  | reads =>
    rw [hk] at hx
    obtain ⟨x, hx, hQ⟩ := okO_some hx
    exact (read_sound hc hr he hx).does hr fun y hy => by subst hy; exact hQ
  | lays =>
    rw [hk] at hx
    rw [T.all_bind] at hx
    obtain ⟨x, v, w', tot, hQ, h1, h2⟩ := lays_sound (K := K) (w := w) hc he hx
    obtain ⟨h3, h4, h5⟩ := h2.lay hr
    exact ⟨_, _, .value v, _, w', hQ, h1, h3, h4, h5⟩
  | does =>
    rw [hk] at hx
    exact does_sound hc hr he hn hx
end
end Go.Abs

/- Regions whose order is open: what the order is bound by, and environments. -/
namespace Go.Abs
open Go Go.RowKit
noncomputable section

/-! ### What is looked at ahead of a proof -/
def tmpOf : Operand → Option Nat
  | .tmp t => some t
  | _ => none

/-- The temporaries that an operation looks at. -/
def looksOf (ops : List Oper) (o : Oper) : List Nat :=
  o.op.operands.toList.filterMap tmpOf ++ (match o.guard with
   | some (g, _) => ((ops[g]?).bind (·.dst)).toList
   | none => [])

def ancStep (acc : List Nat) (es : List Edge) (s : Nat) : Nat :=
  List.rec (motive := fun _ => Nat → Nat) (fun s => s) (fun e _ ih s => ih (bif Region.binds .any e then Nat.lor (Nat.lor s (2 ^ e.on)) (acc.getD e.on 0) else s)) es s

/-- The operations ahead of each one, as bits. -/
def ancGo (l : List Oper) : List Nat → List Nat :=
  List.rec (motive := fun _ => List Nat → List Nat) (fun acc => acc) (fun o _ ih acc => ih (acc ++ [ancStep acc o.after.toList 0])) l

def memN (t : Nat) (l : List Nat) : Bool := l.any fun u => Nat.beq t u

/-- Must the two stand in an order? -/
def bound (c : Ctx) (ops : List Oper) (x y : Oper) : Bool :=
  (match x.dst with
   | some d => memN d (looksOf ops y) || (match y.dst with | some e => Nat.beq d e | none => false)
   | none => false) ||
  (match y.dst with
   | some d => memN d (looksOf ops x)
   | none => false) ||
  (decide (kindOf c x.op = .does) && decide (kindOf c y.op = .does))

def pairsOk (c : Ctx) (ops : List Oper) (bits : Nat) (y : Oper) (l : List Oper) : Nat → Bool :=
  List.rec (motive := fun _ => Nat → Bool) (fun _ => true) (fun x _ ih i => (bif Nat.testBit bits i then true else !bound c ops x y) && ih (Nat.succ i)) l

/-- Where the operations stand that do something. -/
def doesOf (c : Ctx) (l : List Oper) : Nat → List Nat :=
  List.rec (motive := fun _ => Nat → List Nat) (fun _ => []) (fun x _ ih i => bif decide (kindOf c x.op = .does) then i :: ih (Nat.succ i) else ih (Nat.succ i)) l

def planOk (anc : List Nat) (ds : List Nat) (p : Plan) (i : Nat) : Bool :=
  match planOf p i with
  | some (lo, hi) => Nat.ble lo ds.length && (ds.take lo).all (fun e => Nat.testBit (anc.getD i 0) e) && (match ds[hi]? with | some e => Nat.testBit (anc.getD e 0) i | none => true)
  | none => false

def opsOk (c : Ctx) (p : Plan) (anc ds : List Nat) (all : List Oper) (l : List Oper) : Nat → Bool :=
  List.rec (motive := fun _ => Nat → Bool) (fun _ => true) (fun o _ ih j =>
    o.after.toList.all (fun e => !Region.binds .any e || Nat.blt e.on j) && o.op.operands.toList.all operOk &&
    pairsOk c all (anc.getD j 0) o (all.take j) 0 &&
    (bif decide (kindOf c o.op = .reads) then planOk anc ds p j else true) && ih (Nat.succ j)) l

def regionOk (c : Ctx) (p : Plan) (ops : List Oper) : Bool :=
  let anc := ancGo ops []
  opsOk c p anc (doesOf c ops 0) ops ops 0

/-! ### What it tells -/
theorem ancStep_bit {acc : List Nat} {i : Nat} : ∀ (es : List Edge) (s : Nat), Nat.testBit (ancStep acc es s) i = true → Nat.testBit s i = true ∨ ∃ e ∈ es, Region.binds .any e = true ∧ (e.on = i ∨ Nat.testBit (acc.getD e.on 0) i = true)
  | [], s, h => .inl h
  | e :: es, s, h => by
    rcases ancStep_bit es _ h with h | ⟨e', he, hb, hq⟩
    · cases hb : Region.binds .any e with
      | false => rw [hb] at h; exact .inl h
      | true =>
        rw [hb] at h
        simp only [cond_true] at h
        have h : Nat.testBit ((s ||| 2 ^ e.on) ||| acc.getD e.on 0) i = true := h
        rw [Nat.testBit_or, Nat.testBit_or, Nat.testBit_two_pow] at h
        simp only [Bool.or_eq_true, decide_eq_true_eq] at h
        rcases h with (h | h) | h
        · exact .inl h
        · exact .inr ⟨e, by simp, hb, .inl h⟩
        · exact .inr ⟨e, by simp, hb, .inr h⟩
    · exact .inr ⟨e', by simp [he], hb, hq⟩

theorem ancGo_spec : ∀ (l pre : List Oper) (acc : List Nat), acc.length = pre.length →
    (∀ j i, Nat.testBit (acc.getD j 0) i = true → ∃ o, pre[j]? = some o ∧ ∃ e ∈ o.after.toList, Region.binds .any e = true ∧ (e.on = i ∨ Nat.testBit (acc.getD e.on 0) i = true)) →
    ∀ j i, Nat.testBit ((ancGo l acc).getD j 0) i = true → ∃ o, (pre ++ l)[j]? = some o ∧ ∃ e ∈ o.after.toList, Region.binds .any e = true ∧ (e.on = i ∨ Nat.testBit ((ancGo l acc).getD e.on 0) i = true)
  | [], pre, acc, _, h, j, i, hb => by rw [List.append_nil]; exact h j i hb
  | o :: l, pre, acc, hlen, h, j, i, hb => by
    have hgo : ancGo (o :: l) acc = ancGo l (acc ++ [ancStep acc o.after.toList 0]) := rfl
    rw [hgo] at hb ⊢
    have := ancGo_spec l (pre ++ [o]) (acc ++ [ancStep acc o.after.toList 0]) (by simp [hlen]) (fun j i hb => by
      have up : ∀ k i, Nat.testBit (acc.getD k 0) i = true → Nat.testBit ((acc ++ [ancStep acc o.after.toList 0]).getD k 0) i = true := by
        intro k i hk
        by_cases hlt : k < acc.length
        · simpa [List.getD, List.getElem?_append_left hlt] using hk
        · have : acc.getD k 0 = 0 := by simp [List.getD, List.getElem?_eq_none (Nat.le_of_not_lt hlt)]
          rw [this] at hk
          simp at hk
      by_cases hlt : j < acc.length
      · have hb' : Nat.testBit (acc.getD j 0) i = true := by simpa [List.getD, List.getElem?_append_left hlt] using hb
        obtain ⟨o', ho', e, he, hbe, hq⟩ := h j i hb'
        exact ⟨o', by rw [List.getElem?_append_left (by omega)]; exact ho', e, he, hbe, hq.imp id (up _ _)⟩
      · by_cases heq : j = acc.length
        · subst heq
          have hb' : Nat.testBit (ancStep acc o.after.toList 0) i = true := by simpa [List.getD] using hb
          rcases ancStep_bit _ _ hb' with h0 | ⟨e, he, hbe, hq⟩
          · simp at h0
          · exact ⟨o, by rw [hlen]; simp, e, he, hbe, hq.imp id (up _ _)⟩
        · have : (acc ++ [ancStep acc o.after.toList 0]).getD j 0 = 0 := by
            simp only [List.getD]
            rw [List.getElem?_eq_none (by simp; omega)]
            rfl
          rw [this] at hb
          simp at hb) j i hb
    simpa using this

structure RegFacts (c : Ctx) (p : Plan) (ops : List Oper) (anc ds : List Nat) : Prop where
  hanc : anc = ancGo ops []
  hds : ds = doesOf c ops 0
  edges : ∀ (j : Nat) (o : Oper), ops[j]? = some o → ∀ e ∈ o.after.toList, Region.binds .any e = true → e.on < j
  operands : ∀ (j : Nat) (o : Oper), ops[j]? = some o → o.op.operands.toList.all operOk = true
  pairs : ∀ (i j : Nat) (x y : Oper), i < j → ops[i]? = some x → ops[j]? = some y → bound c ops x y = true → Nat.testBit (anc.getD j 0) i = true
  plans : ∀ (j : Nat) (o : Oper), ops[j]? = some o → kindOf c o.op = .reads → planOk anc ds p j = true

theorem pairsOk_spec {c : Ctx} {ops : List Oper} {bits : Nat} {y : Oper} : ∀ (l : List Oper) (k : Nat), pairsOk c ops bits y l k = true → ∀ (i : Nat) (x : Oper), l[i]? = some x → bound c ops x y = true → Nat.testBit bits (k + i) = true
  | [], _, _, i, x, hx, _ => by simp at hx
  | z :: l, k, h, i, x, hx, hb => by
    have h : ((bif Nat.testBit bits k then true else !bound c ops z y) && pairsOk c ops bits y l (Nat.succ k)) = true := h
    simp only [Bool.and_eq_true] at h
    cases i with
    | zero =>
      simp at hx
      subst hx
      rw [Nat.add_zero]
      cases ht : Nat.testBit bits k with
      | true => rfl
      | false => rw [ht] at h; simp [hb] at h
    | succ i =>
      have := pairsOk_spec l (Nat.succ k) h.2 i x (by simpa using hx) hb
      rw [show k + (i + 1) = Nat.succ k + i by omega]
      exact this

theorem opsOk_spec {c : Ctx} {p : Plan} {anc ds : List Nat} {all : List Oper} : ∀ (l : List Oper) (k : Nat), opsOk c p anc ds all l k = true → ∀ (i : Nat) (o : Oper), l[i]? = some o →
    (∀ e ∈ o.after.toList, Region.binds .any e = true → e.on < k + i) ∧ o.op.operands.toList.all operOk = true ∧ pairsOk c all (anc.getD (k + i) 0) o (all.take (k + i)) 0 = true ∧ (kindOf c o.op = .reads → planOk anc ds p (k + i) = true)
  | [], _, _, i, o, ho => by simp at ho
  | z :: l, k, h, i, o, ho => by
    have h : (z.after.toList.all (fun e => !Region.binds .any e || Nat.blt e.on k) && z.op.operands.toList.all operOk &&
      pairsOk c all (anc.getD k 0) z (all.take k) 0 && (bif decide (kindOf c z.op = .reads) then planOk anc ds p k else true) && opsOk c p anc ds all l (Nat.succ k)) = true := h
    simp only [Bool.and_eq_true] at h
    cases i with
    | zero =>
      simp at ho
      subst ho
      refine ⟨fun e he hb => ?_, h.1.1.1.2, h.1.1.2, fun hk => ?_⟩
      · have := List.all_eq_true.1 h.1.1.1.1 e he
        rw [hb] at this
        exact (blt_iff _ _).1 (by simpa using this)
      · have := h.1.2
        rw [hk] at this
        simpa using this
    | succ i =>
      have := opsOk_spec l (Nat.succ k) h.2 i o (by simpa using ho)
      rw [show k + (i + 1) = Nat.succ k + i by omega]
      exact this

theorem regionOk_facts {c : Ctx} {p : Plan} {ops : List Oper} (h : regionOk c p ops = true) : RegFacts c p ops (ancGo ops []) (doesOf c ops 0) := by
  have key := opsOk_spec ops 0 h
  simp only [Nat.zero_add] at key
  refine ⟨rfl, rfl, fun j o ho => (key j o ho).1, fun j o ho => (key j o ho).2.1, fun i j x y hij hx hy hb => ?_, fun j o ho hk => (key j o ho).2.2.2 hk⟩
  have := pairsOk_spec _ 0 (key j y hy).2.2.1 i x (by rw [List.getElem?_take, if_pos hij]; exact hx) hb
  simpa using this

/-- A set of operations that holds with each one what stands ahead of it. -/
def Closed (ops : List Oper) (S : Nat → Bool) : Prop := ∀ (j : Nat) (o : Oper), ops[j]? = some o → S j = true → ∀ e ∈ o.after.toList, Region.binds .any e = true → S e.on = true

theorem Closed.anc {c : Ctx} {p : Plan} {ops : List Oper} {anc ds : List Nat} (hf : RegFacts c p ops anc ds) {S : Nat → Bool} (hS : Closed ops S) :
    ∀ (j i : Nat), S j = true → Nat.testBit (anc.getD j 0) i = true → S i = true := by
  intro j
  induction j using Nat.strongRecOn with
  | ind j ih =>
    intro i hj hb
    rw [hf.hanc] at hb
    obtain ⟨o, ho, e, he, hbe, hq⟩ := ancGo_spec ops [] [] rfl (fun j i h => by simp at h) j i hb
    rw [List.nil_append] at ho
    have hlt := hf.edges j o ho e he hbe
    have hs := hS j o ho hj e he hbe
    rcases hq with rfl | hq
    · exact hs
    · rw [← hf.hanc] at hq
      exact ih _ hlt i hs hq

/-- What stands ahead of an operation that is next. -/
theorem Closed.next {c : Ctx} {p : Plan} {ops : List Oper} {anc ds : List Nat} (hf : RegFacts c p ops anc ds) {S : Nat → Bool} (hS : Closed ops S) {j : Nat} {o : Oper} (ho : ops[j]? = some o)
    (hr : ∀ e ∈ o.after.toList, Region.binds .any e = true → S e.on = true) {i : Nat} (hb : Nat.testBit (anc.getD j 0) i = true) : S i = true := by
  rw [hf.hanc] at hb
  obtain ⟨o', ho', e, he, hbe, hq⟩ := ancGo_spec ops [] [] rfl (fun j i h => by simp at h) j i hb
  rw [List.nil_append, ho] at ho'
  cases ho'
  have hs := hr e he hbe
  rcases hq with rfl | hq
  · exact hs
  · rw [← hf.hanc] at hq
    exact hS.anc hf _ _ hs hq
end
end Go.Abs

/- Regions whose order is open: environments, and memory with what is laid early. -/
namespace Go.Abs
open Go Go.RowKit

/-! ### Environments -/
theorem Env.get_putD (e : Env) (d : Option Tmp) (x : X) (t : Nat) : (e.putD d x).get t = if d = some t ∧ t < e.n then x else e.get t := by
  cases d with
  | none => simp [Env.putD]
  | some i =>
    show (e.put i x).get t = _
    by_cases hi : i < e.n
    · rw [Env.get_put e i t x hi]
      by_cases h : i = t
      · subst h; simp [hi]
      · simp [h]
    · rw [Env.put_out e i x hi]
      by_cases h : i = t
      · subst h; simp [hi]
      · simp [h]

def envF (E0 : Env) (D : Nat → Option Tmp) (x : Nat → X) (p : Nat → Bool) : Nat → Env
  | 0 => E0
  | k + 1 => bif p k then (envF E0 D x p k).putD (D k) (x k) else envF E0 D x p k

section env
variable {E0 : Env} {D : Nat → Option Tmp} {x : Nat → X}

theorem envF_n (p : Nat → Bool) : ∀ k, (envF E0 D x p k).n = E0.n
  | 0 => rfl
  | k + 1 => by
    unfold envF
    cases p k with
    | true => rw [cond_true, Env.n_putD, envF_n p k]
    | false => rw [cond_false, envF_n p k]

theorem envF_get (p : Nat → Bool) (k t : Nat) : (envF E0 D x p (k + 1)).get t = if p k = true ∧ D k = some t ∧ t < E0.n then x k else (envF E0 D x p k).get t := by
  rw [envF]
  cases hp : p k with
  | true => rw [cond_true, Env.get_putD, envF_n]; simp
  | false => rw [cond_false]; simp

/-- What an operation that is next sees is what it sees in the order of the text. -/
theorem env_agree {S : Nat → Bool} {n i t : Nat} (hi : i ≤ n) (hS : S i = false) (hlo : ∀ k, k < i → D k = some t → S k = true) (hhi : ∀ k, i < k → k < n → D k = some t → S k = false) :
    (envF E0 D x S n).get t = (envF E0 D x (fun _ => true) i).get t := by
  have key : ∀ m, m ≤ n → (envF E0 D x S m).get t = (envF E0 D x (fun _ => true) (min m i)).get t := by
    intro m
    induction m with
    | zero => intro _; rw [Nat.zero_min]; rfl
    | succ k ih =>
      intro hm
      have ih := ih (by omega)
      rw [envF_get]
      by_cases hk : k < i
      · rw [show min (k + 1) i = k + 1 by omega, envF_get]
        rw [show min k i = k by omega] at ih
        by_cases hd : D k = some t
        · rw [hlo k hk hd]; simp [hd, ih]
        · simp [hd, ih]
      · rw [show min (k + 1) i = i by omega]
        rw [show min k i = i by omega] at ih
        have : ¬ (S k = true ∧ D k = some t ∧ t < E0.n) := by
          rintro ⟨h1, h2, _⟩
          by_cases e : k = i
          · subst e; rw [hS] at h1; cases h1
          · have := hhi k (by omega) (by omega) h2
            rw [this] at h1; cases h1
        rw [if_neg this]
        exact ih
  have := key n (Nat.le_refl _)
  rwa [show min n i = i by omega] at this

theorem env_add {S : Nat → Bool} {n i t : Nat} (hi : i < n) (hS : S i = false) (hhi : ∀ k, i < k → k < n → D k = some t → D i = some t → S k = false) :
    (envF E0 D x (fun k => S k || Nat.beq k i) n).get t = if D i = some t ∧ t < E0.n then x i else (envF E0 D x S n).get t := by
  have key : ∀ m, m ≤ n → (envF E0 D x (fun k => S k || Nat.beq k i) m).get t = if i < m ∧ D i = some t ∧ t < E0.n then x i else (envF E0 D x S m).get t := by
    intro m
    induction m with
    | zero => intro _; rw [if_neg (by omega)]; rfl
    | succ k ih =>
      intro hm
      have ih := ih (by omega)
      rw [envF_get, envF_get, ih]
      by_cases hk : k = i
      · subst hk
        simp only [hS, Bool.false_or, Nat.beq_refl, true_and, Nat.lt_succ_self, Bool.false_eq_true, false_and, if_false, Nat.lt_irrefl]
      · have hb : Nat.beq k i = false := by rw [beq_dec]; simp [hk]
        rw [hb]
        simp only [Bool.or_false]
        by_cases h2 : S k = true ∧ D k = some t ∧ t < E0.n
        · rw [if_pos h2, if_pos h2]
          by_cases h3 : i < k + 1 ∧ D i = some t ∧ t < E0.n
          · have := hhi k (by omega) (by omega) h2.2.1 h3.2.1
            rw [this] at h2
            cases h2.1
          · rw [if_neg h3]
        · rw [if_neg h2, if_neg h2]
          by_cases h3 : i < k ∧ D i = some t ∧ t < E0.n
          · rw [if_pos h3, if_pos ⟨by omega, h3.2⟩]
          · rw [if_neg h3, if_neg (fun h => h3 ⟨by omega, h.2⟩)]
  have := key n (Nat.le_refl _)
  rw [this]
  simp [hi]
end env

theorem EnvR.put {ν : Ren} {e : Env} {a : Act} (h : EnvR ν e.t e.n a.tmps) {d : Option Tmp} {x : X} {v : Value} (hx : XR ν x v) : EnvR ν (e.putD d x).t (e.putD d x).n (a.put d v).tmps := by
  have hg : ∀ i, XR ν ((e.putD d x).get i) ((a.put d v).tmps.getD i undef) := by
    intro i
    rw [Env.get_putD]
    cases d with
    | none =>
      rw [if_neg (by simp)]
      exact h.2 i
    | some j0 =>
      obtain ⟨j, rfl⟩ : ∃ j : Nat, j = j0 := ⟨j0, rfl⟩
      show XR ν _ ((a.tmps.setIfInBounds j v).getD i undef)
      have hn := h.1
      by_cases hi : j = i
      · subst hi
        by_cases hlt : j < e.n
        · rw [if_pos ⟨rfl, hlt⟩]
          have : (a.tmps.setIfInBounds j v).getD j undef = v := by
            have hj : j < a.tmps.size := by omega
            simp [Array.getD_eq_getD_getElem?, Array.getElem?_setIfInBounds, hj]
          rw [this]; exact hx
        · rw [if_neg (fun h => hlt h.2)]
          have : (a.tmps.setIfInBounds j v).getD j undef = a.tmps.getD j undef := by
            have hj : ¬ j < a.tmps.size := by omega
            simp [Array.getD_eq_getD_getElem?, Array.getElem?_setIfInBounds, hj]
          rw [this]; exact h.2 j
      · rw [if_neg (by simp [hi])]
        have : (a.tmps.setIfInBounds j v).getD i undef = a.tmps.getD i undef := by
          simp [Array.getD_eq_getD_getElem?, hi]
        rw [this]; exact h.2 i
  refine ⟨?_, hg⟩
  rw [Env.n_putD, h.1]
  cases d with
  | none => rfl
  | some j => simp [Act.put]

theorem EnvR.get {ν : Ren} {e : Env} {tmps : Array Value} (h : EnvR ν e.t e.n tmps) (i : Nat) : XR ν (e.get i) (tmps.getD i undef) := h.2 i

theorem EnvR.congr {ν : Ren} {e e' : Env} {tmps : Array Value} (h : EnvR ν e.t e.n tmps) (hn : e'.n = e.n) (hg : ∀ t, e'.get t = e.get t) : EnvR ν e'.t e'.n tmps :=
  ⟨hn.trans h.1, fun i => by have := hg i; unfold Env.get at this; rw [this]; exact h.2 i⟩

theorem EnvR.mono {ν ν' : Ren} (hle : ν.le ν') {e : Env} {tmps : Array Value} (h : EnvR ν e.t e.n tmps) : EnvR ν' e.t e.n tmps := ⟨h.1, fun i => (h.2 i).mono hle⟩

theorem ev_tmps {ν : Ren} {env : Env} {a : Act} {x : Operand} (h : ∀ t, x = .tmp t → XR ν (env.get t) (a.tmps.getD t undef)) (hx : operOk x = true) : XR ν (env.ev x) (a.eval x) := by
  cases x with
  | tmp t => exact h t rfl
  | const v => exact ofConst_XR ν hx
  | global g => exact rfl
  | func f => exact ⟨#[], #[], rfl, trivial, trivial⟩

/-- Whether an operation is wanted. -/
theorem wanted_run {ν : Ren} {ops : List Oper} {env : Env} {o : Oper} {a : Act} {b : Bool} (hg : ∀ g w d oj, o.guard = some (g, w) → ops[g]? = some oj → oj.dst = some d → XR ν (env.get d) (a.tmps.getD d undef))
    (h : wantedV ops env o = some b) : Region.wanted o (yielded ops.toArray a.tmps) = b := by
  unfold wantedV at h
  unfold Region.wanted
  cases hgd : o.guard with
  | none => rw [hgd] at h; cases h; rfl
  | some gw =>
    obtain ⟨g, want⟩ := gw
    rw [hgd] at h
    simp only at h ⊢
    unfold yielded
    rw [List.getElem?_toArray]
    cases hj : ops[g]? with
    | none => rw [hj] at h; cases h; rfl
    | some oj =>
      rw [hj] at h
      simp only at h
      rw [Option.bind_some]
      cases hd : oj.dst with
      | none => rw [hd] at h; cases h; rfl
      | some d =>
        rw [hd] at h
        simp only at h
        rw [Option.bind_some]
        have hx := hg g want d oj hgd hj hd
        have hgd' : a.tmps.getD d undef = (a.tmps[d]?).getD undef := by simp [Array.getD_eq_getD_getElem?]
        rw [hgd'] at hx
        split at h
        · rename_i b0 he
          rw [he] at hx
          have hv : (a.tmps[d]?).getD undef = .bool b0 := hx
          cases hq : a.tmps[d]? with
          | none => rw [hq] at hv; cases hv
          | some v =>
            rw [hq] at hv
            simp only [Option.getD_some] at hv
            subst hv
            cases h
            cases b0 <;> cases want <;> rfl
        · cases h
        · rename_i h1 h2
          cases h
          have hn : ∀ b0, a.tmps[d]? ≠ some (.bool b0) := by
            intro b0 hq
            rw [hq] at hx
            simp only [Option.getD_some] at hx
            cases he : env.get d with
            | tup l => rw [he] at hx; obtain ⟨vs, e, _⟩ := hx; cases e
            | y y =>
              cases y with
              | agg l => rw [he] at hx; obtain ⟨vs, e, _⟩ := hx; cases e
              | v v =>
                rw [he] at hx
                cases v with
                | bool b1 => exact h1 b1 he
                | bad => exact h2 he
                | ptr b o => obtain ⟨l, _, e⟩ := hx; cases e
                | slice b o l c p => obtain ⟨l, _, _, _, e, _⟩ := hx; cases e
                | map b => obtain ⟨l, _, e⟩ := hx; cases e
                | func f p q => obtain ⟨F, C, e, _⟩ := hx; cases e
                | yield b => obtain ⟨l, _, e⟩ := hx; cases e
                | capGe k => obtain ⟨n, e, _⟩ := hx; cases e
                | _ => cases hx
          cases hq : a.tmps[d]? with
          | none => rfl
          | some v =>
            cases v with
            | bool b0 => exact absurd hq (hn b0)
            | _ => rfl
end Go.Abs

/- Regions whose order is open: memory. -/
namespace Go.Abs
open Go Go.RowKit

section
variable {K : CodeP} {B : Base} {w0 w w' : World} {ν ν' : Ren} {h h' g g' : H}

/-- Less is told of memory. -/
theorem HR.sub (hr : HR K B w0 ν g w) (hs : ∀ b o, h.get b = some o → g.get b = some o) (hn : h.next = g.next) : HR K B w0 ν h w :=
  ⟨fun b l hb => by rw [hn]; exact hr.dom b l hb, fun b o l hb hl => hr.obj b o l (hs b o hb) hl, fun b b' o o' l l' hne hb hb' => hr.sep b b' o o' l l' hne (hs b o hb) (hs b' o' hb'),
    fun b o l hb => hr.new b o l (hs b o hb), hr.below, hr.size, fun b o hb => by rw [hn]; exact hr.wf b o (hs b o hb)⟩

theorem HR.congr (hr : HR K B w0 ν g w) (hs : ∀ b, h.get b = g.get b) (hn : h.next = g.next) : HR K B w0 ν h w :=
  hr.sub (fun b o hb => by rw [← hs b]; exact hb) hn

theorem HR.reserve (hr : HR K B w0 ν h w) (k : Nat) : HR K B w0 ν { h with next := h.next + k } w :=
  ⟨fun b l hb => Nat.lt_of_lt_of_le (hr.dom b l hb) (Nat.le_add_right _ _), hr.obj, hr.sep, hr.new, hr.below, hr.size, fun b o hb => Nat.lt_of_lt_of_le (hr.wf b o hb) (Nat.le_add_right _ _)⟩

/-- What is told of a name that stands for nothing. -/
theorem HR.phantom (hr : HR K B w0 ν h w) {b : Nat} (o : O) (hb : ν b = none) (hlt : b < h.next) : HR K B w0 ν (h.put b o) w := by
  have hne : ∀ x l, ν x = some l → b ≠ x := fun x l hx e => by subst e; rw [hb] at hx; cases hx
  have hget : ∀ x l, ν x = some l → (h.put b o).get x = h.get x := fun x l hx => by rw [H.get_put, if_neg (hne x l hx)]
  refine ⟨hr.dom, fun x y z hx hz => hr.obj x y z (by rw [← hget x z hz]; exact hx) hz, fun x x' y y' z z' hn hx hx' hz hz' => hr.sep x x' y y' z z' hn (by rw [← hget x z hz]; exact hx) (by rw [← hget x' z' hz']; exact hx') hz hz',
    fun x y z hx hz => hr.new x y z (by rw [← hget x z hz]; exact hx) hz, hr.below, hr.size, fun x y hx => ?_⟩
  rw [H.get_put] at hx
  split at hx
  · rename_i e; subst e; exact hlt
  · exact hr.wf x y hx

/-- A block is laid in the model's memory for a name that stood ready. -/
theorem HR.name (hr : HR K B w0 ν h w) {b : Nat} {o : O} {l : Loc} (hb : ν b = none) (hlt : b < h.next) (hl : l.blk = w.heap.size)
    (hold : ∀ k, k < w.heap.size → w'.heap[k]? = w.heap[k]?) (hsz : w.heap.size ≤ w'.heap.size) (hs : SameRest w w') (ho : OR K (ren ν b l) l w' o) :
    HR K B w0 (ren ν b l) (h.put b o) w' := by
  have hle := ren_le (l := l) hb
  have hB := hr.size
  refine ⟨fun x y hx => ?_, fun x y z hx hz => ?_, fun x x' y y' z z' hne hx hx' hz hz' hwr => ?_, fun x y z hx hz hwr => ?_, ?_, by omega, fun x y hx => ?_⟩
  · rw [H.next_put]
    unfold ren at hx
    split at hx
    · rename_i e; subst e; exact hlt
    · exact hr.dom x y hx
  · rw [H.get_put] at hx
    split at hx
    · rename_i e; subst e
      cases hx
      rw [ren_self] at hz; cases hz
      exact ho
    · rename_i e
      rw [ren_ne (fun e' => e e'.symm)] at hz
      exact (hr.obj x y z hx hz).mono hle (hold _ (hr.lt hx hz))
  · rw [H.get_put] at hx hx'
    split at hx
    · rename_i e; subst e
      rw [ren_self] at hz; cases hz
      rw [if_neg hne] at hx'
      rw [ren_ne (fun e => hne e.symm)] at hz'
      have := hr.lt hx' hz'
      omega
    · rename_i e
      rw [ren_ne (fun e' => e e'.symm)] at hz
      split at hx'
      · rename_i e'; subst e'
        rw [ren_self] at hz'; cases hz'
        have := hr.lt hx hz
        omega
      · rename_i e'
        rw [ren_ne (fun e'' => e' e''.symm)] at hz'
        exact hr.sep x x' y y' z z' hne hx hx' hz hz' hwr
  · rw [H.get_put] at hx
    split at hx
    · rename_i e; subst e
      rw [ren_self] at hz; cases hz
      omega
    · rename_i e
      rw [ren_ne (fun e' => e e'.symm)] at hz
      exact hr.new x y z hx hz hwr
  · exact hr.below.trans ⟨⟨hs.os, hs.tape, hs.output, hsz, fun k hk => hold k (by omega)⟩, fun _ => hs.drawn⟩
  · rw [H.next_put]
    rw [H.get_put] at hx
    split at hx
    · rename_i e; subst e; exact hlt
    · exact hr.wf x y hx

/-- What was laid early lies there still, behind an operation that knows nothing of it. -/
theorem HR.aug (hg : HR K B w0 ν g w) (hsub : ∀ b o, h.get b = some o → g.get b = some o) (hgn : g.next = h.next) (he : Ext ν h w ν' h' w') (hr : HR K B w0 ν' h' w') (hn : g'.next = h'.next)
    (hget : ∀ b, g'.get b = h'.get b ∨ (g'.get b = g.get b ∧ h.get b = none)) : HR K B w0 ν' g' w' := by
  -- of a block laid early: its name stood for the same ahead of the operation
  have old : ∀ b o l, g.get b = some o → ν' b = some l → ν b = some l := fun b o l hb hl => by
    have hlt : b < h.next := by rw [← hgn]; exact hg.wf b o hb
    cases hν : ν b with
    | none => rw [he.newdom b hν hlt] at hl; cases hl
    | some l0 => rw [he.le b l0 hν] at hl; exact hl
  have notOwned : ∀ b o l, g.get b = some o → h.get b = none → ν b = some l → ¬ Owned h ν l.blk := by
    rintro b o l hb hn hl ⟨b2, o2, l2, h2, hl2, hw2, e⟩
    have hne : b2 ≠ b := fun e => by subst e; rw [hn] at h2; cases h2
    exact hg.sep b2 b o2 o l2 l hne (hsub b2 o2 h2) hb hl2 hl hw2 e
  -- a block of the later memory lies elsewhere than one laid early
  have apart : ∀ b b' o o' l l', b ≠ b' → h'.get b = some o → g.get b' = some o' → h.get b' = none → ν' b = some l → ν b' = some l' → (writable o = true ∨ writable o' = true) → l.blk ≠ l'.blk := by
    intro b b' o o' l l' hne hb hb' hnb hl hl' hw
    cases hν : ν b with
    | some l0 =>
      have e0 : l0 = l := by have := he.le b l0 hν; rw [hl] at this; exact (Option.some.inj this).symm
      subst e0
      have hlt : b < h.next := by rw [← hgn]; exact hg.dom b l0 hν
      obtain ⟨o0, h0, hw0⟩ := he.live b o hlt hb
      rcases hw with hw | hw
      · exact hg.sep b b' o0 o' l0 l' hne (hsub b o0 h0) hb' hν hl' (hw0.trans hw)
      · exact fun e => hg.sep b' b o' o0 l' l0 (fun e => hne e.symm) hb' (hsub b o0 h0) hl' hν hw e.symm
    | none =>
      rcases he.fresh b l hν hl with hf | hf
      · have := hg.lt hb' hl'
        omega
      · intro e
        rw [e] at hf
        exact notOwned b' o' l' hb' hnb hl' hf
  refine ⟨fun b l hb => by rw [hn]; exact hr.dom b l hb, fun b o l hb hl => ?_, fun b b' o o' l l' hne hb hb' hl hl' hw => ?_, fun b o l hb hl hw => ?_, hr.below, hr.size, fun b o hb => ?_⟩
  · rcases hget b with e | ⟨e, e2⟩
    · exact hr.obj b o l (by rw [← e]; exact hb) hl
    · rw [e] at hb
      have hl0 := old b o l hb hl
      exact (hg.obj b o l hb hl0).mono he.le (he.frame _ (hg.lt hb hl0) (notOwned b o l hb e2 hl0))
  · rcases hget b with e | ⟨e, e2⟩
    · rcases hget b' with e' | ⟨e', e2'⟩
      · exact hr.sep b b' o o' l l' hne (by rw [← e]; exact hb) (by rw [← e']; exact hb') hl hl' hw
      · rw [e'] at hb'
        exact apart b b' o o' l l' hne (by rw [← e]; exact hb) hb' e2' hl (old b' o' l' hb' hl') (.inl hw)
    · rw [e] at hb
      rcases hget b' with e' | ⟨e', e2'⟩
      · exact fun q => apart b' b o' o l' l (fun e => hne e.symm) (by rw [← e']; exact hb') hb e2 hl' (old b o l hb hl) (.inr hw) q.symm
      · rw [e'] at hb'
        exact hg.sep b b' o o' l l' hne hb hb' (old b o l hb hl) (old b' o' l' hb' hl') hw
  · rcases hget b with e | ⟨e, e2⟩
    · exact hr.new b o l (by rw [← e]; exact hb) hl hw
    · rw [e] at hb
      exact hg.new b o l hb (old b o l hb hl) hw
  · rcases hget b with e | ⟨e, e2⟩
    · rw [hn]; exact hr.wf b o (by rw [← e]; exact hb)
    · rw [e] at hb
      have := hg.wf b o hb
      have := he.next
      omega

/-- From a state of memory ahead of a region: a name of the region's own now stands for a new block. -/
theorem Ext.name (e : Ext ν h w ν' h' w') {b : Nat} {l : Loc} {w2 : World} (hb : h.next ≤ b) (hν : ν' b = none) (hl : w'.heap.size ≤ l.blk) (hold : ∀ k, k < w'.heap.size → w2.heap[k]? = w'.heap[k]?) (hsz : w'.heap.size ≤ w2.heap.size) :
    Ext ν h w (ren ν' b l) h' w2 where
  le := Ren.le_trans e.le (ren_le hν)
  newdom := fun x hx hlt => by rw [ren_ne (by omega)]; exact e.newdom x hx hlt
  next := e.next
  phantom := e.phantom
  frame := fun k hk hn => (hold k (Nat.lt_of_lt_of_le hk e.size)).trans (e.frame k hk hn)
  size := Nat.le_trans e.size hsz
  fresh := fun x y hx hy => by
    unfold ren at hy
    split at hy
    · cases hy; exact .inl (Nat.le_trans e.size hl)
    · exact e.fresh x y hx hy
  live := e.live

theorem Ext.putOwn (e : Ext ν h w ν' h' w') {b : Nat} (o : O) (hb : h.next ≤ b) : Ext ν h w ν' (h'.put b o) w' where
  le := e.le
  newdom := e.newdom
  next := e.next
  phantom := fun x hx hn => by rw [H.get_put, if_neg (by omega)]; exact e.phantom x hx hn
  frame := e.frame
  size := e.size
  fresh := e.fresh
  live := fun x y hx hy => by rw [H.get_put, if_neg (by omega)] at hy; exact e.live x y hx hy

theorem Ext.reserve (e : Ext ν h w ν' h' w') (k : Nat) : Ext ν h w ν' { h' with next := h'.next + k } w' :=
  ⟨e.le, e.newdom, Nat.le_trans e.next (Nat.le_add_right _ _), e.phantom, e.frame, e.size, e.fresh, e.live⟩

/-! ### A reading looks into one block -/
theorem readOp_block {c : Ctx} {env : Env} {o : Op} (hk : kindOf c o = .reads) (hb : ∀ b, blockOf env o = some b → h.get b = g.get b) : readOp c h env o = readOp c g env o := by
  cases o with
  | load t a =>
    simp only [readOp]
    split
    · rename_i b off he
      have := hb b (by simp [blockOf, he])
      simp only [loadY, getCells, this]
    · rfl
  | lookup t m k ok =>
    simp only [readOp]
    split
    · rename_i mv kv hm hk
      cases mv with
      | map b =>
        have := hb b (by simp [blockOf, hm])
        simp only [lookupOp, entriesOf, getMap, this]
      | _ => rfl
    · rfl
  | convert s d x =>
    simp only [readOp]
    split
    · rename_i v hv
      cases v with
      | slice b off len cap opn =>
        have := hb b (by simp [blockOf, hv])
        simp only [firstCells, getCells, this]
      | _ => rfl
    · rfl
  | call c' =>
    simp only [readOp]
    split
    · rename_i x t ts h1 h2 h3
      cases isMapT c t with
      | false => rfl
      | true =>
        simp only [cond_true]
        split
        · rfl
        · rename_i b he
          have := hb b (by simp [blockOf, h2, he])
          simp only [getMap, this]
        · rfl
    · rfl
  | _ => rfl
end
end Go.Abs

/- Regions whose order is open: the run in the order of the text, and a state on the way of another order. -/
namespace Go.Abs
open Go Go.RowKit

section trace
variable {c : Ctx} {r : Rec} {ops : List Oper} {base : Nat}

def dstOf (ops : List Oper) (i : Nat) : Option Tmp := (ops[i]?).bind (·.dst)

theorem drawOps_cons (o : Oper) (l : List Oper) (i : Nat) (env : Env) (h : H) :
    drawOps c r ops base (o :: l) i env h = (drawStep c r ops base i env h o).bind fun p => (drawOps c r ops base l (i + 1) (env.putD o.dst p.1) p.2).map fun (q : List Step × Env × H) => (⟨o, env, h, p.1, p.2⟩ :: q.1, q.2) := rfl

theorem drawOps_spec : ∀ (l : List Oper) (k : Nat) (env : Env) (h : H) (q : List Step × Env × H), drawOps c r ops base l k env h = some q →
    q.1.length = l.length ∧ (∀ s, q.1[0]? = some s → s.env = env ∧ s.h = h) ∧ (l = [] → q.2 = (env, h)) ∧
    ∀ (i : Nat) (s : Step), q.1[i]? = some s → l[i]? = some s.o ∧ drawStep c r ops base (k + i) s.env s.h s.o = some (s.x, s.h') ∧
      (∀ s', q.1[i + 1]? = some s' → s'.env = s.env.putD s.o.dst s.x ∧ s'.h = s.h') ∧ (i + 1 = l.length → q.2 = (s.env.putD s.o.dst s.x, s.h'))
  | [], k, env, h, q, hq => by
    have e : q = ([], env, h) := (Option.some.inj hq).symm
    subst e
    exact ⟨rfl, fun s hs => by simp at hs, fun _ => rfl, fun i s hs => by simp at hs⟩
  | o :: l, k, env, h, q, hq => by
    rw [drawOps_cons] at hq
    simp only [Option.bind_eq_some_iff, Option.map_eq_some_iff] at hq
    obtain ⟨p, hp, q', hq', rfl⟩ := hq
    obtain ⟨h1, h2, h3, h4⟩ := drawOps_spec l (k + 1) _ _ q' hq'
    refine ⟨by simp [h1], fun s hs => ?_, fun e => by simp at e, fun i s hs => ?_⟩
    · simp at hs; subst hs; exact ⟨rfl, rfl⟩
    · cases i with
      | zero =>
        simp at hs
        subst hs
        refine ⟨rfl, hp, fun s' hs' => ?_, fun hl => ?_⟩
        · exact h2 s' (by simpa using hs')
        · have : l = [] := List.eq_nil_of_length_eq_zero (by simpa using hl.symm)
          exact h3 this
      | succ i =>
        obtain ⟨a1, a2, a3, a4⟩ := h4 i s (by simpa using hs)
        refine ⟨by simpa using a1, ?_, fun s' hs' => a3 s' (by simpa using hs'), fun hl => a4 (by simpa using hl)⟩
        rw [show k + (i + 1) = k + 1 + i by omega]
        exact a2

/-- The run in the order of the text, place by place. -/
structure Trace (c : Ctx) (r : Rec) (ops : List Oper) (base : Nat) (E0 : Env) (h0 : H) (Hh : Nat → H) (xs : Nat → X) : Prop where
  step : ∀ (i : Nat) (o : Oper), ops[i]? = some o → drawStep c r ops base i (envF E0 (dstOf ops) xs (fun _ => true) i) (Hh i) o = some (xs i, Hh (i + 1))
  zero : Hh 0 = h0

theorem trace_of {E0 : Env} {h0 : H} {q : List Step × Env × H} (hq : drawOps c r ops base ops 0 E0 h0 = some q) :
    ∃ (Hh : Nat → H) (xs : Nat → X), Trace c r ops base E0 h0 Hh xs ∧ q.1.length = ops.length ∧ q.2 = (envF E0 (dstOf ops) xs (fun _ => true) ops.length, Hh ops.length) ∧
      ∀ (i : Nat) (o : Oper), ops[i]? = some o → q.1[i]? = some (Step.mk o (envF E0 (dstOf ops) xs (fun _ => true) i) (Hh i) (xs i) (Hh (i + 1))) := by
  obtain ⟨h1, h2, h3, h4⟩ := drawOps_spec ops 0 E0 h0 q hq
  let Hh : Nat → H := fun i => match q.1[i]? with | some s => s.h | none => q.2.2
  let xs : Nat → X := fun i => match q.1[i]? with | some s => s.x | none => undefX
  have hH : ∀ (i : Nat) (s : Step), q.1[i]? = some s → Hh i = s.h := fun i s hs => by simp only [Hh, hs]
  have hX : ∀ (i : Nat) (s : Step), q.1[i]? = some s → xs i = s.x := fun i s hs => by simp only [xs, hs]
  have hN : ∀ i, ops.length ≤ i → Hh i = q.2.2 := fun i hi => by
    have : q.1[i]? = none := List.getElem?_eq_none (by omega)
    simp only [Hh, this]
  have hnext : ∀ (i : Nat) (s : Step), q.1[i]? = some s → Hh (i + 1) = s.h' := fun i s hs => by
    obtain ⟨a1, a2, a3, a4⟩ := h4 i s hs
    cases hn : q.1[i + 1]? with
    | some s' => rw [hH _ s' hn]; exact (a3 s' hn).2
    | none =>
      have hlen : ops.length ≤ i + 1 := by rw [← h1]; exact List.getElem?_eq_none_iff.1 hn
      have hlt : i < ops.length := (List.getElem?_eq_some_iff.1 a1).1
      rw [hN _ hlen, a4 (by omega)]
  have henv : ∀ (i : Nat) (s : Step), q.1[i]? = some s → s.env = envF E0 (dstOf ops) xs (fun _ => true) i := by
    intro i
    induction i with
    | zero => intro s hs; rw [(h2 s hs).1]; rfl
    | succ i ih =>
      intro s hs
      have hlt : i < q.1.length := by have := (List.getElem?_eq_some_iff.1 hs).1; omega
      have hs0 := List.getElem?_eq_getElem hlt
      obtain ⟨a1, a2, a3, a4⟩ := h4 i _ hs0
      rw [(a3 s hs).1, ih _ hs0]
      have : dstOf ops i = (q.1[i]).o.dst := by simp only [dstOf, a1, Option.bind_some]
      rw [envF, cond_true, this, hX i _ hs0]
  have hop : ∀ (i : Nat) (o : Oper), ops[i]? = some o → ∃ s : Step, q.1[i]? = some s ∧ s.o = o := fun i o ho => by
    have hlt : i < q.1.length := by have := (List.getElem?_eq_some_iff.1 ho).1; omega
    have hs := List.getElem?_eq_getElem hlt
    obtain ⟨a1, _⟩ := h4 i _ hs
    rw [ho] at a1
    exact ⟨_, hs, (Option.some.inj a1).symm⟩
  refine ⟨Hh, xs, ⟨fun i o ho => ?_, ?_⟩, h1, ?_, fun i o ho => ?_⟩
  · obtain ⟨s, hs, rfl⟩ := hop i o ho
    obtain ⟨a1, a2, _⟩ := h4 i s hs
    rw [Nat.zero_add] at a2
    rw [← henv i s hs, hH i s hs, hX i s hs, hnext i s hs]
    exact a2
  · cases hs : q.1[0]? with
    | some s => rw [hH 0 s hs]; exact (h2 s hs).2
    | none =>
      have : q.1 = [] := by cases hq1 : q.1 with
        | nil => rfl
        | cons _ _ => rw [hq1] at hs; simp at hs
      have hl : ops = [] := List.eq_nil_of_length_eq_zero (by rw [← h1, this]; rfl)
      rw [hN 0 (by rw [hl]; simp), h3 hl]
  · cases hl : ops.length with
    | zero =>
      have hl' : ops = [] := List.eq_nil_of_length_eq_zero hl
      rw [hN 0 (by omega), h3 hl']
      rfl
    | succ m =>
      have hlt : m < q.1.length := by omega
      have hs := List.getElem?_eq_getElem hlt
      obtain ⟨a1, a2, a3, a4⟩ := h4 m _ hs
      have e := a4 hl.symm
      have : dstOf ops m = (q.1[m]).o.dst := by simp only [dstOf, a1, Option.bind_some]
      rw [e, envF, cond_true, this, hX m _ hs, henv m _ hs, hnext m _ hs]
  · obtain ⟨s, hs, rfl⟩ := hop i o ho
    rw [hs, ← henv i s hs, hH i s hs, hX i s hs, hnext i s hs]
end trace

/-! ### A step of the trace -/
section steps
variable {c : Ctx} {r : Rec} {ops : List Oper} {base i : Nat} {env : Env} {h h' : H} {o : Oper} {x : X}

theorem drawStep_unwanted (hs : drawStep c r ops base i env h o = some (x, h')) (hw : wantedV ops env o = some false) : x = undefX ∧ h' = h := by
  unfold drawStep at hs
  rw [hw] at hs
  cases hs
  exact ⟨rfl, rfl⟩

theorem drawStep_wanted (hs : drawStep c r ops base i env h o = some (x, h')) : ∃ b, wantedV ops env o = some b := by
  unfold drawStep at hs
  simp only [Option.bind_eq_some_iff] at hs
  obtain ⟨b, hb, _⟩ := hs
  exact ⟨b, hb⟩

theorem T.opt_some {α : Type} {t : T α} {a : α} (h : t.opt = some a) : t = .ret a := by
  cases t with
  | ret b => cases h; rfl
  | fail => cases h
  | ask n k => cases h

theorem drawStep_does (hs : drawStep c r ops base i env h o = some (x, h')) (hw : wantedV ops env o = some true) (hk : kindOf c o.op = .does) : doesOp c r env h o.op = .ret (x, h') := by
  unfold drawStep at hs
  rw [hw] at hs
  simp only [Option.bind_some, cond_true, hk] at hs
  exact T.opt_some hs

theorem drawStep_reads (hs : drawStep c r ops base i env h o = some (x, h')) (hw : wantedV ops env o = some true) (hk : kindOf c o.op = .reads) : readOp c h env o.op = some x ∧ h' = h := by
  unfold drawStep at hs
  rw [hw] at hs
  simp only [Option.bind_some, cond_true, hk, Option.map_eq_some_iff] at hs
  obtain ⟨y, hy, e⟩ := hs
  cases e
  exact ⟨hy, rfl⟩

theorem drawStep_calm (hs : drawStep c r ops base i env h o = some (x, h')) (hw : wantedV ops env o = some true) (hk : kindOf c o.op = .calm) : calmOp c env o.op = .ret x ∧ h' = h := by
  unfold drawStep at hs
  rw [hw] at hs
  simp only [Option.bind_some, cond_true, hk, Option.map_eq_some_iff] at hs
  obtain ⟨y, hy, e⟩ := hs
  cases e
  exact ⟨T.opt_some hy, rfl⟩

theorem drawStep_lays (hs : drawStep c r ops base i env h o = some (x, h')) (hw : wantedV ops env o = some true) (hk : kindOf c o.op = .lays) :
    ∃ v ob, laysOp c env (base + i) o.op = .ret (v, ob) ∧ x = .y (.v v) ∧ h' = h.put (base + i) ob := by
  unfold drawStep at hs
  rw [hw] at hs
  simp only [Option.bind_some, cond_true, hk, Option.map_eq_some_iff] at hs
  obtain ⟨y, hy, e⟩ := hs
  cases e
  exact ⟨y.1, y.2, T.opt_some hy, rfl, rfl⟩

/-- Where the step lays nothing and does nothing, memory stays. -/
theorem drawStep_still (hs : drawStep c r ops base i env h o = some (x, h')) (hk : kindOf c o.op ≠ .does) (hl : ¬ (kindOf c o.op = .lays ∧ wantedV ops env o = some true)) : h' = h := by
  obtain ⟨b, hb⟩ := drawStep_wanted hs
  cases b with
  | false => exact (drawStep_unwanted hs hb).2
  | true =>
    cases hkk : kindOf c o.op with
    | calm => exact (drawStep_calm hs hb hkk).2
    | reads => exact (drawStep_reads hs hb hkk).2
    | does => exact absurd hkk hk
    | lays => exact absurd ⟨hkk, hb⟩ hl
end steps
end Go.Abs

/- Regions whose order is open: one operation more, in whatever order. -/
namespace Go.Abs
open Go Go.RowKit

/-- All that is fixed while a region runs. -/
structure RegCtx where
  K : CodeP
  B : Base
  w0 : World
  P : Program
  c : Ctx
  r : Rec
  p : Plan
  ops : List Oper
  base : Nat
  E0 : Env
  Hh : Nat → H
  xs : Nat → X
  anc : List Nat
  ds : List Nat
  ν0 : Ren
  h00 : H
  ws : World
  defers : List Deferred

namespace RegCtx
def E (R : RegCtx) (i : Nat) : Env := envF R.E0 (dstOf R.ops) R.xs (fun _ => true) i
def isDoes (R : RegCtx) (i : Nat) : Prop := ∃ o : Oper, R.ops[i]? = some o ∧ kindOf R.c o.op = .does
def isLay (R : RegCtx) (i : Nat) : Prop := ∃ o : Oper, R.ops[i]? = some o ∧ kindOf R.c o.op = .lays ∧ wantedV R.ops (R.E i) o = some true

structure Ok (R : RegCtx) : Prop where
  hc : CtxOk R.P R.c
  facts : RegFacts R.c R.p R.ops R.anc R.ds
  step : ∀ (i : Nat) (o : Oper), R.ops[i]? = some o → drawStep R.c R.r R.ops R.base i (R.E i) (R.Hh i) o = some (R.xs i, R.Hh (i + 1))
  hbase : R.h00.next = R.base
  dom : ∀ b l, R.ν0 b = some l → b < R.h00.next

/-- A state on the way: S holds the operations that are done; q: where the next one stands that does something. -/
structure Inv (R : RegCtx) (q : Nat) (S : Nat → Bool) (ν : Ren) (g : H) (a : Act) (w : World) : Prop where
  qn : q ≤ R.ops.length
  lo : ∀ i, i < q → R.isDoes i → S i = true
  hi : ∀ i, q ≤ i → R.isDoes i → S i = false
  closed : Closed R.ops S
  hr : HR R.K R.B R.w0 ν g w
  gnext : g.next = (R.Hh q).next
  geq : ∀ b, (∀ i, q ≤ i → S i = true → R.isLay i → b ≠ R.base + i) → g.get b = (R.Hh q).get b
  gearly : ∀ i, q ≤ i → S i = true → R.isLay i → g.get (R.base + i) = (R.Hh (i + 1)).get (R.base + i)
  hnone : ∀ i, q ≤ i → i < R.ops.length → (R.Hh q).get (R.base + i) = none
  nun : ∀ i, i < R.ops.length → (S i = false ∨ ¬ R.isLay i) → ν (R.base + i) = none
  late : ∀ i, i < q → S i = false → R.isLay i → (R.Hh q).get (R.base + i) = (R.Hh (i + 1)).get (R.base + i) ∨ (R.Hh q).get (R.base + i) = none
  env : EnvR ν (envF R.E0 (dstOf R.ops) R.xs S R.ops.length).t (envF R.E0 (dstOf R.ops) R.xs S R.ops.length).n a.tmps
  ext : Ext R.ν0 R.h00 R.ws ν (R.Hh q) w
  room : R.base + R.ops.length ≤ (R.Hh q).next
  defers : a.defers = R.defers

def add (S : Nat → Bool) (i : Nat) : Nat → Bool := fun k => S k || Nat.beq k i
theorem add_self (S : Nat → Bool) (i : Nat) : add S i i = true := by unfold add; rw [Nat.beq_refl, Bool.or_true]
theorem add_ne {S : Nat → Bool} {i k : Nat} (h : k ≠ i) : add S i k = S k := by
  unfold add
  have : Nat.beq k i = false := by rw [beq_dec]; simp [h]
  rw [this, Bool.or_false]
theorem add_false {S : Nat → Bool} {i k : Nat} (h : add S i k = false) : S k = false ∧ k ≠ i := by
  unfold add at h
  rw [Bool.or_eq_false_iff] at h
  refine ⟨h.1, fun e => ?_⟩
  subst e
  rw [Nat.beq_refl] at h
  cases h.2

def Ready (R : RegCtx) (S : Nat → Bool) (o : Oper) : Prop := ∀ e ∈ o.after.toList, Region.binds .any e = true → S e.on = true

section
variable {R : RegCtx} (ok : R.Ok) {q : Nat} {S : Nat → Bool} {ν : Ren} {g : H} {a : Act} {w : World}

theorem memN_of {t : Nat} {l : List Nat} (h : t ∈ l) : memN t l = true := by
  unfold memN
  rw [List.any_eq_true]
  exact ⟨t, h, Nat.beq_refl t⟩

theorem bound_dst {c : Ctx} {ops : List Oper} {x y : Oper} {d : Nat} (hd : x.dst = some d) (h : d ∈ looksOf ops y ∨ y.dst = some d) : bound c ops x y = true := by
  unfold bound
  rw [hd]
  rcases h with h | h
  · simp only [memN_of h, Bool.true_or]
  · rw [h]; simp only [Nat.beq_refl, Bool.or_true, Bool.true_or]
theorem bound_dst' {c : Ctx} {ops : List Oper} {x y : Oper} {d : Nat} (hd : y.dst = some d) (h : d ∈ looksOf ops x) : bound c ops x y = true := by
  unfold bound
  rw [hd]
  simp only [memN_of h, Bool.or_true, Bool.true_or]
theorem bound_does {c : Ctx} {ops : List Oper} {x y : Oper} (hx : kindOf c x.op = .does) (hy : kindOf c y.op = .does) : bound c ops x y = true := by
  unfold bound
  simp only [hx, hy, decide_true, Bool.and_self, Bool.or_true]

theorem dstOf_some {ops : List Oper} {k : Nat} {t : Nat} (h : dstOf ops k = some t) : ∃ o : Oper, ops[k]? = some o ∧ o.dst = some t := by
  unfold dstOf at h
  exact Option.bind_eq_some_iff.1 h

include ok in
/-- What stands ahead of an operation that is next is done. -/
theorem before (hcl : Closed R.ops S) {i : Nat} {o : Oper} (ho : R.ops[i]? = some o) (hrd : R.Ready S o) {k : Nat} {x : Oper} (hx : R.ops[k]? = some x) (hki : k < i) (hb : bound R.c R.ops x o = true) : S k = true :=
  hcl.next ok.facts ho hrd (ok.facts.pairs k i x o hki hx ho hb)

include ok in
theorem behind (hcl : Closed R.ops S) {i : Nat} {o : Oper} (ho : R.ops[i]? = some o) (hi : S i = false) {k : Nat} {x : Oper} (hx : R.ops[k]? = some x) (hik : i < k) (hb : bound R.c R.ops o x = true) : S k = false := by
  cases hk : S k with
  | false => rfl
  | true =>
    have := hcl.anc ok.facts k i hk (ok.facts.pairs i k o x hik ho hx hb)
    rw [hi] at this; cases this

include ok in
theorem sees (hcl : Closed R.ops S) {i : Nat} {o : Oper} (ho : R.ops[i]? = some o) (hi : S i = false) (hrd : R.Ready S o) {t : Nat} (ht : t ∈ looksOf R.ops o) :
    (envF R.E0 (dstOf R.ops) R.xs S R.ops.length).get t = (R.E i).get t := by
  have hlt : i < R.ops.length := (List.getElem?_eq_some_iff.1 ho).1
  refine env_agree (Nat.le_of_lt hlt) hi (fun k hk hd => ?_) (fun k hk hkn hd => ?_)
  · obtain ⟨x, hx, hxd⟩ := dstOf_some hd
    exact before ok hcl ho hrd hx hk (bound_dst hxd (.inl ht))
  · obtain ⟨x, hx, hxd⟩ := dstOf_some hd
    exact behind ok hcl ho hi hx hk (bound_dst' hxd ht)

include ok in
/-- Its operands are as in the order of the text. -/
theorem evR (v : Inv R q S ν g a w) {i : Nat} {o : Oper} (ho : R.ops[i]? = some o) (hi : S i = false) (hrd : R.Ready S o) : EvR ν (R.E i) a o.op.operands.toList := by
  intro x hx
  refine ev_tmps (fun t e => ?_) (List.all_eq_true.1 (ok.facts.operands i o ho) x hx)
  subst e
  rw [← sees ok v.closed ho hi hrd (by
    unfold looksOf
    exact List.mem_append_left _ (List.mem_filterMap.2 ⟨.tmp t, hx, rfl⟩))]
  exact v.env.get t

include ok in
theorem wants (v : Inv R q S ν g a w) {i : Nat} {o : Oper} (ho : R.ops[i]? = some o) (hi : S i = false) (hrd : R.Ready S o) {b : Bool} (hw : wantedV R.ops (R.E i) o = some b) :
    Region.wanted o (yielded R.ops.toArray a.tmps) = b := by
  refine wanted_run (ν := ν) (fun g' w' d oj hg hj hd => ?_) hw
  rw [← sees ok v.closed ho hi hrd (by
    unfold looksOf
    refine List.mem_append_right _ ?_
    rw [hg]
    simp [hj, hd])]
  exact v.env.get d

include ok in
theorem envAdd (v : Inv R q S ν g a w) {ν' : Ren} (hle : ν.le ν') {i : Nat} {o : Oper} (ho : R.ops[i]? = some o) (hi : S i = false) {u : Value} (hu : XR ν' (R.xs i) u) :
    EnvR ν' (envF R.E0 (dstOf R.ops) R.xs (add S i) R.ops.length).t (envF R.E0 (dstOf R.ops) R.xs (add S i) R.ops.length).n (a.put o.dst u).tmps := by
  have hlt : i < R.ops.length := (List.getElem?_eq_some_iff.1 ho).1
  have h1 := (v.env.mono hle).put (d := o.dst) hu
  refine h1.congr (by rw [envF_n, Env.n_putD, envF_n]) fun t => ?_
  have hd : dstOf R.ops i = o.dst := by unfold dstOf; rw [ho]; rfl
  have := env_add (E0 := R.E0) (D := dstOf R.ops) (x := R.xs) (S := S) (n := R.ops.length) (i := i) (t := t) hlt hi (fun k hk hkn h1 h2 => by
    obtain ⟨x, hx, hxd⟩ := dstOf_some h1
    exact behind ok v.closed ho hi hx hk (bound_dst (d := t) (by rw [← hd]; exact h2) (.inr hxd)))
  unfold add
  rw [this, Env.get_putD, envF_n, hd]

theorem closedAdd (v : Inv R q S ν g a w) {i : Nat} {o : Oper} (ho : R.ops[i]? = some o) (hrd : R.Ready S o) : Closed R.ops (add S i) := by
  intro j oj hj hs e he hb
  by_cases hji : j = i
  · subst hji
    rw [ho] at hj
    cases hj
    have := hrd e he hb
    unfold add; rw [this, Bool.true_or]
  · rw [add_ne hji] at hs
    have := v.closed j oj hj hs e he hb
    unfold add; rw [this, Bool.true_or]

theorem put_defers (a : Act) (d : Option Tmp) (u : Value) : (a.put d u).defers = a.defers := by cases d <;> rfl

include ok in
/-- An operation that leaves memory as it is. -/
theorem stepStill (v : Inv R q S ν g a w) {i : Nat} {o : Oper} (ho : R.ops[i]? = some o) (hi : S i = false) (hrd : R.Ready S o) (hnd : ¬ R.isDoes i) (hnl : ¬ R.isLay i) {u : Value} (hu : XR ν (R.xs i) u) :
    Inv R q (add S i) ν g (a.put o.dst u) w where
  qn := v.qn
  lo := fun k hk hd => by unfold add; rw [v.lo k hk hd, Bool.true_or]
  hi := fun k hk hd => by
    have hne : k ≠ i := fun e => hnd (e ▸ hd)
    rw [add_ne hne]; exact v.hi k hk hd
  closed := closedAdd v ho hrd
  hr := v.hr
  gnext := v.gnext
  geq := fun b hb => v.geq b fun k hk hs hl => hb k hk (by unfold add; rw [hs, Bool.true_or]) hl
  gearly := fun k hk hs hl => by
    have hne : k ≠ i := fun e => hnl (e ▸ hl)
    rw [add_ne hne] at hs; exact v.gearly k hk hs hl
  hnone := v.hnone
  nun := fun k hk hs => v.nun k hk (hs.imp (fun h => (add_false h).1) id)
  late := fun k hk hs hl => v.late k hk (add_false hs).1 hl
  env := envAdd ok v (Ren.le_refl _) ho hi hu
  ext := v.ext
  room := v.room
  defers := by rw [put_defers]; exact v.defers

include ok in
/-- An operation that lays a block. -/
theorem stepLay (v : Inv R q S ν g a w) {i : Nat} {o : Oper} (ho : R.ops[i]? = some o) (hi : S i = false) (hrd : R.Ready S o) (hk : kindOf R.c o.op = .lays) (hw : wantedV R.ops (R.E i) o = some true) :
    ∃ u w' ν' g', (execOp a.eval o).run R.P w = .ok (.value u) w' ∧ Inv R q (add S i) ν' g' (a.put o.dst u) w' := by
  have hlt : i < R.ops.length := (List.getElem?_eq_some_iff.1 ho).1
  obtain ⟨xv, ob, hlay, hx, hH⟩ := drawStep_lays (ok.step i o ho) hw hk
  have hnu := v.nun i hlt (.inl hi)
  have hil : R.isLay i := ⟨o, ho, hk, hw⟩
  have hnd : ¬ R.isDoes i := by
    rintro ⟨o', ho', hd⟩
    rw [ho] at ho'; cases ho'
    rw [hk] at hd; cases hd
  obtain ⟨x, u, w', tot, hQ, hrun, hlaid⟩ := lays_sound (K := R.K) (ν := ν) (w := w) (P := R.P) ok.hc (Q := (· = (xv, ob))) (evR ok v ho hi hrd) (by rw [hlay]; exact rfl)
  subst hQ
  have hle := ren_le (l := ⟨w.heap.size, 0, tot⟩) hnu
  obtain ⟨h1, h2⟩ := hlaid.val _ hle (ren_self _ _ _)
  have hlt2 : R.base + i < g.next := by rw [v.gnext]; have := v.room; omega
  have hO : (R.Hh (i + 1)).get (R.base + i) = some ob := by rw [hH, H.get_put, if_pos rfl]
  by_cases hcase : (¬ q ≤ i) ∧ (R.Hh q).get (R.base + i) = none
  · have hgn : g.get (R.base + i) = none := by
      rw [v.geq (R.base + i) fun k hk' _ _ e => by omega]
      exact hcase.2
    have hnm := v.hr.name hnu hlt2 rfl hlaid.hold (by rw [hlaid.size]; omega) hlaid.rest h2
    refine ⟨u, w', ren ν (R.base + i) ⟨w.heap.size, 0, tot⟩, g, hrun, ?_⟩
    exact {
      qn := v.qn
      lo := fun k hk' hd => by unfold add; rw [v.lo k hk' hd, Bool.true_or]
      hi := fun k hk' hd => by
        have hne : k ≠ i := fun e => hnd (e ▸ hd)
        rw [add_ne hne]; exact v.hi k hk' hd
      closed := closedAdd v ho hrd
      hr := hnm.sub (fun b o' hb => by
        rw [H.get_put]
        split
        · rename_i e; subst e; rw [hgn] at hb; cases hb
        · exact hb) rfl
      gnext := v.gnext
      geq := fun b hb => v.geq b fun k hk' hs hl => hb k hk' (by unfold add; rw [hs, Bool.true_or]) hl
      gearly := fun k hk' hs hl => by
        rw [add_ne (by omega)] at hs
        exact v.gearly k hk' hs hl
      hnone := v.hnone
      nun := fun k hk' hs => by
        have hki : k ≠ i := by
          rintro rfl
          rcases hs with hs | hs
          · exact (add_false hs).2 rfl
          · exact hs hil
        rw [ren_ne (by omega)]
        exact v.nun k hk' (hs.imp (fun h => (add_false h).1) id)
      late := fun k hk' hs hl => v.late k hk' (add_false hs).1 hl
      env := envAdd ok v hle ho hi (by rw [hx]; exact h1)
      ext := v.ext.name (by rw [ok.hbase]; omega) hnu (Nat.le_refl _) hlaid.hold (by rw [hlaid.size]; omega)
      room := v.room
      defers := by rw [put_defers]; exact v.defers }
  refine ⟨u, w', ren ν (R.base + i) ⟨w.heap.size, 0, tot⟩, g.put (R.base + i) ob, hrun, ?_⟩
  exact {
    qn := v.qn
    lo := fun k hk' hd => by unfold add; rw [v.lo k hk' hd, Bool.true_or]
    hi := fun k hk' hd => by
      have hne : k ≠ i := fun e => hnd (e ▸ hd)
      rw [add_ne hne]; exact v.hi k hk' hd
    closed := closedAdd v ho hrd
    hr := v.hr.name hnu hlt2 rfl hlaid.hold (by rw [hlaid.size]; omega) hlaid.rest h2
    gnext := by rw [H.next_put]; exact v.gnext
    geq := fun b hb => by
      rw [H.get_put]
      split
      · rename_i e
        subst e
        by_cases hqi : q ≤ i
        · exact absurd rfl (hb i hqi (add_self S i) hil)
        · rcases v.late i (by omega) hi hil with e | e
          · rw [e, hO]
          · exact absurd ⟨hqi, e⟩ hcase
      · exact v.geq b fun k hk' hs hl => hb k hk' (by unfold add; rw [hs, Bool.true_or]) hl
    gearly := fun k hk' hs hl => by
      rw [H.get_put]
      by_cases hki : k = i
      · subst hki; rw [if_pos rfl, hO]
      · rw [if_neg (by omega)]
        rw [add_ne hki] at hs
        exact v.gearly k hk' hs hl
    hnone := v.hnone
    nun := fun k hk' hs => by
      have hki : k ≠ i := by
        rintro rfl
        rcases hs with hs | hs
        · exact (add_false hs).2 rfl
        · exact hs hil
      rw [ren_ne (by omega)]
      exact v.nun k hk' (hs.imp (fun h => (add_false h).1) id)
    late := fun k hk' hs hl => v.late k hk' (add_false hs).1 hl
    env := envAdd ok v hle ho hi (by rw [hx]; exact h1)
    ext := v.ext.name (by rw [ok.hbase]; omega) hnu (Nat.le_refl _) hlaid.hold (by rw [hlaid.size]; omega)
    room := v.room
    defers := by rw [put_defers]; exact v.defers }

include ok in
/-- The place moves over an operation that does nothing. -/
theorem move (v : Inv R q S ν g a w) (hq : q < R.ops.length) (hnd : ¬ R.isDoes q) : ∃ g', Inv R (q + 1) S ν g' a w := by
  have ho := List.getElem?_eq_getElem hq
  have hst := ok.step q _ ho
  by_cases hil : R.isLay q
  · obtain ⟨o, ho', hk, hw⟩ := hil
    rw [ho] at ho'
    cases ho'
    obtain ⟨xv, ob, hlay, hx, hH⟩ := drawStep_lays hst hw hk
    have hil : R.isLay q := ⟨_, ho, hk, hw⟩
    have hne : ∀ i, q + 1 ≤ i → R.base + q ≠ R.base + i := fun i hi => by omega
    have common : ∀ g' : H, HR R.K R.B R.w0 ν g' w → g'.next = g.next → (∀ b, b ≠ R.base + q → g'.get b = g.get b) → g'.get (R.base + q) = some ob → Inv R (q + 1) S ν g' a w := by
      intro g' hr' hn hoth hself
      exact {
        qn := hq
        lo := fun k hk' hd => by
          by_cases hkq : k = q
          · subst hkq; exact absurd hd hnd
          · exact v.lo k (by omega) hd
        hi := fun k hk' hd => v.hi k (by omega) hd
        closed := v.closed
        hr := hr'
        gnext := by rw [hn, v.gnext, hH, H.next_put]
        geq := fun b hb => by
          rw [hH, H.get_put]
          by_cases hbq : R.base + q = b
          · subst hbq; rw [if_pos rfl, hself]
          · rw [if_neg hbq, hoth b (fun e => hbq e.symm)]
            refine v.geq b fun k hk' hs hl => ?_
            by_cases hkq : k = q
            · subst hkq; exact fun e => hbq e.symm
            · exact hb k (by omega) hs hl
        gearly := fun k hk' hs hl => by
          rw [hoth _ (by omega)]
          exact v.gearly k (by omega) hs hl
        hnone := fun k hk' hkn => by
          rw [hH, H.get_put, if_neg (by omega)]
          exact v.hnone k (by omega) hkn
        nun := v.nun
        late := fun k hk' hs hl => by
          by_cases hkq : k = q
          · subst hkq; exact .inl rfl
          · rw [hH, H.get_put, if_neg (by omega)]
            exact v.late k (by omega) hs hl
        env := v.env
        ext := by rw [hH]; exact v.ext.putOwn _ (by rw [ok.hbase]; omega)
        room := by rw [hH, H.next_put]; exact v.room
        defers := v.defers }
    cases hs : S q with
    | true =>
      refine ⟨g, common g v.hr rfl (fun _ _ => rfl) ?_⟩
      rw [v.gearly q (Nat.le_refl _) hs hil, hH, H.get_put, if_pos rfl]
    | false =>
      refine ⟨g.put (R.base + q) ob, common _ (v.hr.phantom ob (v.nun q hq (.inl hs)) (by rw [v.gnext]; have := v.room; omega)) (H.next_put _ _ _) (fun b hb => by rw [H.get_put, if_neg (fun e => hb e.symm)]) (by rw [H.get_put, if_pos rfl])⟩
  · have hH : R.Hh (q + 1) = R.Hh q := drawStep_still hst (fun hk => hnd ⟨_, ho, hk⟩) (fun hk => hil ⟨_, ho, hk.1, hk.2⟩)
    refine ⟨g, ?_⟩
    exact {
      qn := hq
      lo := fun k hk' hd => by
        by_cases hkq : k = q
        · subst hkq; exact absurd hd hnd
        · exact v.lo k (by omega) hd
      hi := fun k hk' hd => v.hi k (by omega) hd
      closed := v.closed
      hr := v.hr
      gnext := by rw [hH]; exact v.gnext
      geq := fun b hb => by
        rw [hH]
        refine v.geq b fun k hk' hs hl => ?_
        by_cases hkq : k = q
        · subst hkq; exact absurd hl hil
        · exact hb k (by omega) hs hl
      gearly := fun k hk' hs hl => v.gearly k (by omega) hs hl
      hnone := fun k hk' hkn => by rw [hH]; exact v.hnone k (by omega) hkn
      nun := v.nun
      late := fun k hk' hs hl => by
        by_cases hkq : k = q
        · subst hkq; exact absurd hl hil
        · rw [hH]; exact v.late k (by omega) hs hl
      env := v.env
      ext := by rw [hH]; exact v.ext
      room := by rw [hH]; exact v.room
      defers := v.defers }

include ok in
/-- On to the next operation that does something, or to the end. -/
theorem settle : ∀ (m q : Nat) (g : H), R.ops.length - q ≤ m → Inv R q S ν g a w → ∃ q' g', Inv R q' S ν g' a w ∧ (q' < R.ops.length → R.isDoes q') := by
  intro m
  induction m with
  | zero => intro q g hm v; exact ⟨q, g, v, fun h => by omega⟩
  | succ m ih =>
    intro q g hm v
    by_cases hq : q < R.ops.length
    · by_cases hd : R.isDoes q
      · exact ⟨q, g, v, fun _ => hd⟩
      · obtain ⟨g', v'⟩ := move ok v hq hd
        exact ih (q + 1) g' (by omega) v'
    · exact ⟨q, g, v, fun h => absurd h hq⟩
end
end RegCtx
end Go.Abs

/- Regions whose order is open: readings, what is done, and the whole. -/
namespace Go.Abs
open Go Go.RowKit

theorem exists_aug (h g : H) (hn : True) : ∀ L : List Nat, ∃ g' : H, g'.next = h.next ∧ ∀ b, g'.get b = if b ∈ L then g.get b else h.get b
  | [] => ⟨h, rfl, fun b => by simp⟩
  | x :: L => by
    obtain ⟨g1, h1, h2⟩ := exists_aug h g hn L
    cases hx : g.get x with
    | none =>
      refine ⟨g1.kill x, by rw [H.next_kill]; exact h1, fun b => ?_⟩
      rw [H.get_kill, h2]
      by_cases hb : x = b
      · subst hb; simp [hx]
      · have hb' : b ≠ x := fun e => hb e.symm
        simp [hb, hb']
    | some o =>
      refine ⟨g1.put x o, by rw [H.next_put]; exact h1, fun b => ?_⟩
      rw [H.get_put, h2]
      by_cases hb : x = b
      · subst hb; simp [hx]
      · have hb' : b ≠ x := fun e => hb e.symm
        simp [hb, hb']

theorem blockOf_named {ν : Ren} {env : Env} {a : Act} {o : Op} {b : Nat} (hk : ∀ c : Call, o = .call c → ∀ x, c.args.toList = [x] → x ∈ o.operands.toList) (he : EvR ν env a o.operands.toList) (hb : blockOf env o = some b) : ∃ l, ν b = some l := by
  cases o with
  | load t p =>
    simp only [blockOf] at hb
    split at hb
    · rename_i b' off h
      cases hb
      obtain ⟨l, hl, _⟩ := (he p (by simp [Op.operands])).v h
      exact ⟨l, hl⟩
    · cases hb
  | lookup t m k ok =>
    simp only [blockOf] at hb
    split at hb
    · rename_i b' h
      cases hb
      obtain ⟨l, hl, _⟩ := (he m (by simp [Op.operands])).v h
      exact ⟨l, hl⟩
    · cases hb
  | convert s d x =>
    simp only [blockOf] at hb
    split at hb
    · rename_i b' _ _ _ _ h
      cases hb
      obtain ⟨l, _, _, hl, _⟩ := (he x (by simp [Op.operands])).v h
      exact ⟨l, hl⟩
    · cases hb
  | call c' =>
    simp only [blockOf] at hb
    split at hb
    · rename_i x h1
      split at hb
      · rename_i b' h
        cases hb
        obtain ⟨l, hl, _⟩ := (he x (hk c' rfl x h1)).v h
        exact ⟨l, hl⟩
      · cases hb
    · cases hb
  | _ => cases hb

theorem doesOf_mem {c : Ctx} : ∀ (l : List Oper) (k e : Nat), e ∈ doesOf c l k ↔ ∃ (i : Nat) (o : Oper), l[i]? = some o ∧ kindOf c o.op = .does ∧ e = k + i
  | [], k, e => by simp [show doesOf c [] k = [] from rfl]
  | o :: l, k, e => by
    have hd : doesOf c (o :: l) k = bif decide (kindOf c o.op = .does) then k :: doesOf c l (Nat.succ k) else doesOf c l (Nat.succ k) := rfl
    have ih := doesOf_mem (c := c) l (Nat.succ k) e
    constructor
    · intro h
      rw [hd] at h
      by_cases hk : kindOf c o.op = .does
      · simp only [hk, decide_true, cond_true, List.mem_cons] at h
        rcases h with rfl | h
        · exact ⟨0, o, rfl, hk, rfl⟩
        · obtain ⟨i, o', h1, h2, h3⟩ := ih.1 h
          exact ⟨i + 1, o', by simpa using h1, h2, by omega⟩
      · simp only [hk, decide_false, cond_false] at h
        obtain ⟨i, o', h1, h2, h3⟩ := ih.1 h
        exact ⟨i + 1, o', by simpa using h1, h2, by omega⟩
    · rintro ⟨i, o', h1, h2, h3⟩
      rw [hd]
      cases i with
      | zero =>
        simp at h1
        subst h1
        simp [h2, h3]
      | succ i =>
        have : e ∈ doesOf c l (Nat.succ k) := ih.2 ⟨i, o', by simpa using h1, h2, by omega⟩
        by_cases hk : kindOf c o.op = .does
        · simp [hk, this]
        · simp [hk, this]

theorem doesOf_lt {c : Ctx} : ∀ (l : List Oper) (k : Nat), (doesOf c l k).Pairwise (· < ·)
  | [], k => List.Pairwise.nil
  | o :: l, k => by
    have hd : doesOf c (o :: l) k = bif decide (kindOf c o.op = .does) then k :: doesOf c l (Nat.succ k) else doesOf c l (Nat.succ k) := rfl
    rw [hd]
    have ih := doesOf_lt (c := c) l (Nat.succ k)
    cases decide (kindOf c o.op = .does) with
    | false => exact ih
    | true =>
      refine List.Pairwise.cons (fun e he => ?_) ih
      obtain ⟨i, _, _, _, h⟩ := (doesOf_mem l _ e).1 he
      omega

theorem snapsOf_eq {c : Ctx} {hN : H} {Hf : Nat → H} : ∀ (l : List Step) (k : Nat), (∀ (i : Nat) (s : Step), l[i]? = some s → s.h = Hf (k + i)) →
    snapsOf c l k hN = (doesOf c (l.map (·.o)) k).map (fun p => (p, Hf p)) ++ [(k + l.length, hN)]
  | [], k, _ => rfl
  | s :: l, k, h => by
    have ih := snapsOf_eq (c := c) (hN := hN) (Hf := Hf) l (Nat.succ k) (fun i s' hs => by
      rw [show Nat.succ k + i = k + (i + 1) by omega]
      exact h (i + 1) s' (by simpa using hs))
    have h0 := h 0 s rfl
    have hd : doesOf c ((s :: l).map (·.o)) k = bif decide (kindOf c s.o.op = .does) then k :: doesOf c (l.map (·.o)) (Nat.succ k) else doesOf c (l.map (·.o)) (Nat.succ k) := rfl
    rw [snapsOf, hd, ih]
    cases decide (kindOf c s.o.op = .does) with
    | false => simp only [cond_false, List.length_cons]; congr 3; omega
    | true =>
      simp only [cond_true, List.map_cons, List.cons_append, List.length_cons]
      rw [h0]
      congr 4
      omega

theorem stableAt_spec {c : Ctx} {all : List Step} {base b : Nat} {s : Step} : ∀ (ps : List (Nat × H)), stableAt c all base b s ps = true → ∀ p ∈ ps, ∃ h, lookAt all base b p = some h ∧ readOp c h s.env s.o.op = some s.x
  | [], _, p, hp => by cases hp
  | q :: ps, h, p, hp => by
    unfold stableAt at h
    rw [Bool.and_eq_true] at h
    rcases List.mem_cons.1 hp with rfl | hp
    · have h := h.1
      cases hl : lookAt all base b p with
      | none => rw [hl] at h; cases h
      | some hh =>
        rw [hl] at h
        simp only at h
        cases hr : readOp c hh s.env s.o.op with
        | none => rw [hr] at h; cases h
        | some x =>
          rw [hr] at h
          have : x = s.x := of_decide_eq_true h
          subst this
          exact ⟨hh, rfl, hr⟩
    · exact stableAt_spec ps h.2 p hp

theorem stable_spec {c : Ctx} {p : Plan} {ops : List Oper} {all : List Step} {snaps : List (Nat × H)} {base : Nat} : ∀ (l : List Step) (k : Nat), stable c p ops all snaps base l k = true → ∀ (i : Nat) (s : Step), l[i]? = some s →
    kindOf c s.o.op = .reads → wantedV ops s.env s.o = some true → ∃ lo hi, planOf p (k + i) = some (lo, hi) ∧ ∀ b, blockOf s.env s.o.op = some b → stableAt c all base b s ((snaps.drop lo).take (hi + 1 - lo)) = true
  | [], _, _, i, s, hs, _, _ => by simp at hs
  | t :: l, k, h, i, s, hs, hk, hw => by
    unfold stable at h
    rw [Bool.and_eq_true] at h
    cases i with
    | zero =>
      simp at hs
      subst hs
      have h := h.1
      simp only [hk, hw, decide_true, Bool.and_self, cond_true] at h
      rw [Nat.add_zero]
      cases hp : planOf p k with
      | none => rw [hp] at h; cases hb : blockOf t.env t.o.op <;> rw [hb] at h <;> cases h
      | some q =>
        obtain ⟨lo, hi⟩ := q
        refine ⟨lo, hi, rfl, fun b hb => ?_⟩
        rw [hp, hb] at h
        exact h
    | succ i =>
      obtain ⟨lo, hi, h1, h2⟩ := stable_spec l (Nat.succ k) h.2 i s (by simpa using hs) hk hw
      exact ⟨lo, hi, by rw [show k + (i + 1) = Nat.succ k + i by omega]; exact h1, h2⟩

namespace RegCtx
section
variable {R : RegCtx} (ok : R.Ok) {q : Nat} {S : Nat → Bool} {ν : Ren} {g : H} {a : Act} {w : World}

theorem isLay_lt {i : Nat} (h : R.isLay i) : i < R.ops.length := by
  obtain ⟨o, ho, _⟩ := h
  exact (List.getElem?_eq_some_iff.1 ho).1

theorem Inv.sub (v : Inv R q S ν g a w) : ∀ b o, (R.Hh q).get b = some o → g.get b = some o := fun b o hb => by
  rw [v.geq b fun i hi hs hl e => ?_]
  · exact hb
  · subst e
    rw [v.hnone i hi (isLay_lt hl)] at hb
    cases hb

include ok in
/-- Behind an operation that does something. -/
theorem afterDoes (v : Inv R q S ν g a w) {o : Oper} (ho : R.ops[q]? = some o) (hd : kindOf R.c o.op = .does) (hrd : R.Ready S o) {ν' : Ren} {w' : World} {u : Value}
    (hr : HR R.K R.B R.w0 ν' (R.Hh (q + 1)) w') (he : Ext ν (R.Hh q) w ν' (R.Hh (q + 1)) w') (hu : XR ν' (R.xs q) u) : ∃ g', Inv R (q + 1) (add S q) ν' g' (a.put o.dst u) w' := by
  classical
  have hlt : q < R.ops.length := (List.getElem?_eq_some_iff.1 ho).1
  have hS : S q = false := v.hi q (Nat.le_refl _) ⟨o, ho, hd⟩
  obtain ⟨g', n1, n2⟩ := exists_aug (R.Hh (q + 1)) g trivial (((List.range R.ops.length).filter fun i => decide (q + 1 ≤ i ∧ S i = true ∧ R.isLay i)).map (R.base + ·))
  have mem : ∀ b, b ∈ (((List.range R.ops.length).filter fun i => decide (q + 1 ≤ i ∧ S i = true ∧ R.isLay i)).map (R.base + ·)) ↔ ∃ i, q + 1 ≤ i ∧ S i = true ∧ R.isLay i ∧ b = R.base + i := by
    intro b
    simp only [List.mem_map, List.mem_filter, List.mem_range, decide_eq_true_eq]
    constructor
    · rintro ⟨i, ⟨_, h1, h2, h3⟩, rfl⟩; exact ⟨i, h1, h2, h3, rfl⟩
    · rintro ⟨i, h1, h2, h3, rfl⟩; exact ⟨i, ⟨isLay_lt h3, h1, h2, h3⟩, rfl⟩
  refine ⟨g', ?_⟩
  exact {
    qn := hlt
    lo := fun k hk hdk => by
      by_cases hkq : k = q
      · subst hkq; exact add_self _ _
      · rw [add_ne hkq]; exact v.lo k (by omega) hdk
    hi := fun k hk hdk => by rw [add_ne (by omega)]; exact v.hi k (by omega) hdk
    closed := closedAdd v ho hrd
    hr := v.hr.aug v.sub v.gnext he hr n1 fun b => by
      rw [n2]
      by_cases hb : b ∈ (((List.range R.ops.length).filter fun i => decide (q + 1 ≤ i ∧ S i = true ∧ R.isLay i)).map (R.base + ·))
      · rw [if_pos hb]
        obtain ⟨i, h1, h2, h3, rfl⟩ := (mem b).1 hb
        exact .inr ⟨rfl, v.hnone i (by omega) (isLay_lt h3)⟩
      · rw [if_neg hb]; exact .inl rfl
    gnext := n1
    geq := fun b hb => by
      rw [n2, if_neg]
      intro hm
      obtain ⟨i, h1, h2, h3, rfl⟩ := (mem b).1 hm
      exact hb i h1 (by unfold add; rw [h2, Bool.true_or]) h3 rfl
    gearly := fun i hi hs hl => by
      rw [add_ne (by omega)] at hs
      rw [n2, if_pos ((mem _).2 ⟨i, hi, hs, hl, rfl⟩)]
      exact v.gearly i (by omega) hs hl
    hnone := fun i hi hin => by
      cases hg : (R.Hh (q + 1)).get (R.base + i) with
      | none => rfl
      | some o' =>
        obtain ⟨o0, h0, _⟩ := he.live _ o' (by have := v.room; omega) hg
        rw [v.hnone i (by omega) hin] at h0
        cases h0
    nun := fun k hk hs => he.newdom _ (v.nun k hk (hs.imp (fun h => (add_false h).1) id)) (by have := v.room; omega)
    late := fun k hk hs hl => by
      obtain ⟨hs1, hs2⟩ := add_false hs
      have hlt2 := isLay_lt hl
      rcases he.phantom (R.base + k) (by have := v.room; omega) (v.nun k hlt2 (.inl hs1)) with e | e
      · rw [e]
        exact v.late k (by omega) hs1 hl
      · exact .inr e
    env := envAdd ok v he.le ho hS hu
    ext := v.ext.trans ok.dom he
    room := by have := v.room; have := he.next; omega
    defers := by rw [put_defers]; exact v.defers }

include ok in
/-- What a reading gives in a state on the way. -/
theorem readHere (v : Inv R q S ν g a w) (hq : q < R.ops.length → R.isDoes q) {all : List Step} (hall : ∀ (i : Nat) (o : Oper), R.ops[i]? = some o → all[i]? = some ⟨o, R.E i, R.Hh i, R.xs i, R.Hh (i + 1)⟩) (hlen : all.length = R.ops.length)
    (hst : stable R.c R.p R.ops all (snapsOf R.c all 0 (R.Hh R.ops.length)) R.base all 0 = true)
    {i : Nat} {o : Oper} (ho : R.ops[i]? = some o) (hi : S i = false) (hrd : R.Ready S o) (hk : kindOf R.c o.op = .reads) (hw : wantedV R.ops (R.E i) o = some true) :
    readOp R.c g (R.E i) o.op = some (R.xs i) := by
  have hread := (drawStep_reads (ok.step i o ho) hw hk).1
  obtain ⟨lo, hi', hpl, hstb⟩ := stable_spec all 0 hst i _ (hall i o ho) hk hw
  rw [Nat.zero_add] at hpl
  simp only at hstb
  cases hb : blockOf (R.E i) o.op with
  | none =>
    rw [readOp_block (g := R.Hh i) hk (fun b h => by rw [hb] at h; cases h)]
    exact hread
  | some b =>
    have hstb := hstb b hb
    obtain ⟨l, hl⟩ := blockOf_named (fun c' e x hx => by rw [e]; simp [Op.operands, Call.operands, hx]) (evR ok v ho hi hrd) hb
    -- the place at which we stand
    have hds := ok.facts.hds
    have hplan := ok.facts.plans i o ho hk
    unfold planOk at hplan
    rw [hpl] at hplan
    simp only [Bool.and_eq_true] at hplan
    obtain ⟨⟨hlo, htake⟩, hhi⟩ := hplan
    have hlo := Nat.le_of_ble_eq_true hlo
    have hsn : snapsOf R.c all 0 (R.Hh R.ops.length) = R.ds.map (fun p => (p, R.Hh p)) ++ [(R.ops.length, R.Hh R.ops.length)] := by
      have hmap : all.map (·.o) = R.ops := by
        apply List.ext_getElem?
        intro k
        rw [List.getElem?_map]
        cases hk : R.ops[k]? with
        | none => rw [List.getElem?_eq_none (by rw [hlen]; exact List.getElem?_eq_none_iff.1 hk)]; rfl
        | some o' => rw [hall k o' hk]; rfl
      rw [snapsOf_eq (Hf := R.Hh) all 0 (fun k s hs => by
        have hlt : k < R.ops.length := by have := (List.getElem?_eq_some_iff.1 hs).1; omega
        rw [hall k _ (List.getElem?_eq_getElem hlt)] at hs
        cases hs
        rw [Nat.zero_add]), hmap, hds, Nat.zero_add, hlen]
    obtain ⟨m, hm1, hm2⟩ : ∃ m, (R.ds.map (fun p => (p, R.Hh p)) ++ [(R.ops.length, R.Hh R.ops.length)])[m]? = some (q, R.Hh q) ∧ (R.ds[m]? = some q ∨ (m = R.ds.length ∧ q = R.ops.length)) := by
      by_cases hlt : q < R.ops.length
      · obtain ⟨oq, hoq, hdq⟩ := hq hlt
        have : q ∈ R.ds := by rw [hds]; exact (doesOf_mem _ _ _).2 ⟨q, oq, hoq, hdq, by omega⟩
        obtain ⟨m, hm⟩ := List.mem_iff_getElem?.1 this
        refine ⟨m, ?_, .inl hm⟩
        rw [List.getElem?_append_left (by rw [List.length_map]; exact (List.getElem?_eq_some_iff.1 hm).1), List.getElem?_map, hm]
        rfl
      · have hqn : q = R.ops.length := by have := v.qn; omega
        refine ⟨R.ds.length, ?_, .inr ⟨rfl, hqn⟩⟩
        rw [List.getElem?_append_right (by simp)]
        simp [hqn]
    have hlom : lo ≤ m := by
      rcases hm2 with hm2 | ⟨rfl, _⟩
      · rcases Nat.lt_or_ge m lo with hml | hml
        · have hmem : q ∈ R.ds.take lo := List.mem_iff_getElem?.2 ⟨m, by rw [List.getElem?_take, if_pos hml]; exact hm2⟩
          have hbit := List.all_eq_true.1 htake q hmem
          have hsq := v.closed.next ok.facts ho hrd hbit
          have hdq : R.isDoes q := by
            have : q ∈ doesOf R.c R.ops 0 := by rw [← hds]; exact List.mem_of_getElem? hm2
            obtain ⟨k, ok', h1, h2, h3⟩ := (doesOf_mem _ _ _).1 this
            rw [Nat.zero_add] at h3
            subst h3
            exact ⟨ok', h1, h2⟩
          rw [v.hi q (Nat.le_refl _) hdq] at hsq
          cases hsq
        · exact hml
      · exact hlo
    have hmhi : m ≤ hi' := by
      rcases Nat.lt_or_ge hi' m with hlt | hge
      · exfalso
        have hex : ∃ e, R.ds[hi']? = some e ∧ e < q := by
          rcases hm2 with hm2 | ⟨rfl, hqn⟩
          · have hlt1 : hi' < R.ds.length := by have := (List.getElem?_eq_some_iff.1 hm2).1; omega
            refine ⟨_, List.getElem?_eq_getElem hlt1, ?_⟩
            have hpw := doesOf_lt (c := R.c) R.ops 0
            rw [← hds] at hpw
            have hm3 := (List.getElem?_eq_some_iff.1 hm2)
            have := (List.pairwise_iff_getElem.1 hpw) hi' m hlt1 hm3.1 hlt
            rw [hm3.2] at this
            exact this
          · refine ⟨_, List.getElem?_eq_getElem hlt, ?_⟩
            have hmem : R.ds[hi'] ∈ doesOf R.c R.ops 0 := by rw [← hds]; exact List.getElem_mem hlt
            obtain ⟨k, ok', h1, h2, h3⟩ := (doesOf_mem _ _ _).1 hmem
            have := (List.getElem?_eq_some_iff.1 h1).1
            omega
        obtain ⟨e, he, heq⟩ := hex
        rw [he] at hhi
        simp only at hhi
        have hde : R.isDoes e := by
          have : e ∈ doesOf R.c R.ops 0 := by rw [← hds]; exact List.mem_of_getElem? he
          obtain ⟨k, ok', h1, h2, h3⟩ := (doesOf_mem _ _ _).1 this
          rw [Nat.zero_add] at h3
          subst h3
          exact ⟨ok', h1, h2⟩
        have := v.closed.anc ok.facts e i (v.lo e heq hde) hhi
        rw [hi] at this
        cases this
      · exact hge
    have hmem : (q, R.Hh q) ∈ ((snapsOf R.c all 0 (R.Hh R.ops.length)).drop lo).take (hi' + 1 - lo) := by
      refine List.mem_iff_getElem?.2 ⟨m - lo, ?_⟩
      rw [List.getElem?_take, if_pos (by omega), List.getElem?_drop, show lo + (m - lo) = m by omega, hsn]
      exact hm1
    obtain ⟨hh, hlook, hrd2⟩ := stableAt_spec _ hstb _ hmem
    unfold lookAt at hlook
    simp only at hrd2
    cases hcond : (Nat.ble R.base b && Nat.blt q (b - R.base)) with
    | false =>
      rw [hcond] at hlook
      cases hlook
      rw [readOp_block (g := R.Hh q) hk]
      · exact hrd2
      · intro b' hb'
        rw [hb] at hb'
        cases hb'
        refine v.geq b fun k hk' hs hlay e => ?_
        subst e
        have hkq : k ≠ q := by
          rintro rfl
          obtain ⟨o1, h1, h2⟩ := hq (isLay_lt hlay)
          obtain ⟨o2, h3, h4, _⟩ := hlay
          rw [h1] at h3
          cases h3
          rw [h2] at h4
          cases h4
        have : (Nat.ble R.base (R.base + k) && Nat.blt q (R.base + k - R.base)) = true := by
          rw [Bool.and_eq_true]
          exact ⟨Nat.ble_eq_true_of_le (by omega), (blt_iff _ _).2 (by omega)⟩
        rw [this] at hcond
        cases hcond
    | true =>
      rw [Bool.and_eq_true] at hcond
      have h1 := Nat.le_of_ble_eq_true hcond.1
      have h2 := (blt_iff _ _).1 hcond.2
      have hc2 : (Nat.ble R.base b && Nat.blt q (b - R.base)) = true := by rw [Bool.and_eq_true]; exact hcond
      rw [hc2] at hlook
      simp only [cond_true, Option.map_eq_some_iff] at hlook
      obtain ⟨t, ht, rfl⟩ := hlook
      obtain ⟨k, rfl⟩ : ∃ k, b = R.base + k := ⟨b - R.base, by omega⟩
      have hkk : R.base + k - R.base = k := by omega
      rw [hkk] at ht h2
      have hklt : k < R.ops.length := by have := (List.getElem?_eq_some_iff.1 ht).1; omega
      rw [hall k _ (List.getElem?_eq_getElem hklt)] at ht
      cases ht
      have hsk : S k = true ∧ R.isLay k := by
        refine Classical.byContradiction fun hn => ?_
        have : ν (R.base + k) = none := v.nun k hklt (by
          cases hS : S k with
          | false => exact .inl rfl
          | true => exact .inr fun hl => hn ⟨hS, hl⟩)
        rw [this] at hl
        cases hl
      rw [readOp_block (g := R.Hh (k + 1)) hk]
      · exact hrd2
      · intro b' hb'
        rw [hb] at hb'
        cases hb'
        exact v.gearly k (by omega) hsk.1 hsk.2
end
end RegCtx
end Go.Abs

