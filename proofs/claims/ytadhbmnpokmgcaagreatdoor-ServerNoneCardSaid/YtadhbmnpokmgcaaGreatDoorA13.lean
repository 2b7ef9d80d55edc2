/- The theorem on operations that read memory. -/
import Derived.Test.YtadhbmnpokmgcaaGreatDoorA12
import Derived.Laws.BytesString
import Derived.Laws.Cells
import Derived.MapKept
import Derived.Lib.Strings
namespace Go.Abs
open Go Go.RowKit

theorem XR.v' {ν : Ren} {x : X} {u : Value} {y : V} (h : XR ν x u) (e : x = .y (.v y)) : VR ν y u := XR.v h e

section cells
variable {K : CodeP} {B : Nat} {w0 w : World} {ν : Ren} {h : H} {P : Program} {c : Ctx}

theorem getCells_some {b : Nat} {cs : List V} (hb : getCells h b = some cs) : ∃ ro, h.get b = some (.cells cs ro) := by
  unfold getCells at hb
  split at hb
  · rename_i l ro e
    cases hb; exact ⟨ro, e⟩
  · cases hb

theorem getMap_some {b : Nat} {p : List (Y × Y × Nat) × Nat} (hb : getMap h b = some p) : h.get b = some (.map p.1 p.2) := by
  unfold getMap at hb
  split at hb
  · rename_i es cl e
    cases hb; exact e
  · cases hb

/-- A block's cells, one by one. -/
theorem HR.cells (hr : HR K B w0 ν h w) {b : Nat} {cs : List V} {l : Loc} (hb : getCells h b = some cs) (hl : ν b = some l) :
    ∀ i x, cs[i]? = some x → ∃ v, w.cell? ⟨l.blk, l.base + i, none⟩ = some v ∧ VR ν x v := by
  obtain ⟨ro, hg⟩ := getCells_some hb
  obtain ⟨c, t, fr, h1, h2, _⟩ := hr.obj b _ l hg hl
  intro i x hx
  obtain ⟨v, hv, hvr⟩ := h2 i x hx
  exact ⟨v, by simp only [World.cell?, h1]; simpa using hv, hvr⟩

theorem HR.load_sub (hr : HR K B w0 ν h w) {b o n : Nat} {cs r : List V} {l : Loc} (hb : getCells h b = some cs) (hl : ν b = some l) (hs : sub cs o n = some r) :
    ∃ arr : Array Value, (∀ w' : World, w'.heap = w.heap → (loadCells ⟨l.blk, l.base + o, none⟩ n).run P w' = .ok arr w') ∧ LRel (VR ν) r arr.toList := by
  obtain ⟨hle, rfl⟩ := sub_some hs
  have hc := hr.cells hb hl
  have hcell : ∀ j, j < n → ∃ x v, cs[o + j]? = some x ∧ w.cell? ⟨l.blk, l.base + o + j, none⟩ = some v ∧ VR ν x v := by
    intro j hj
    have hlt : o + j < cs.length := by omega
    obtain ⟨v, h1, h2⟩ := hc (o + j) cs[o + j] (List.getElem?_eq_getElem hlt)
    exact ⟨_, v, List.getElem?_eq_getElem hlt, by rw [Nat.add_assoc]; exact h1, h2⟩
  refine ⟨_, fun w' hw' => run_loadCells w' _ n (fun j => (w.cell? ⟨l.blk, l.base + o + j, none⟩).getD undef) (fun j hj => ?_), ?_⟩
  · obtain ⟨x, v, _, h2, _⟩ := hcell j hj
    have hc' : w'.cell? ⟨l.blk, l.base + o + j, none⟩ = w.cell? ⟨l.blk, l.base + o + j, none⟩ := by simp only [World.cell?, hw']
    rw [addr_add, hc', h2]; rfl
  · refine LRel.of_get (by simp; omega) fun i a v ha hv => ?_
    have hi : i < n := by
      have := (List.getElem?_eq_some_iff.1 hv).1
      simpa using this
    obtain ⟨x, u, h1, h2, h3⟩ := hcell i hi
    simp only [List.getElem?_take, hi, if_true, List.getElem?_drop, h1, Option.some.injEq] at ha
    subst ha
    simp only [List.getElem?_map, List.getElem?_range hi, Option.map_some, h2, Option.getD_some, Option.some.injEq] at hv
    subst hv
    exact h3

theorem run_load_cell {a : Addr} {v : Value} (hv : w.cell? a = some v) : (load a).run P w = .ok v w := by
  rw [run_load, hv]

theorem HR.loadVar (hc : CtxOk P c) (hr : HR K B w0 ν h w) {t b o : Nat} {y : Y} {l : Loc} (hl : ν b = some l) (hy : loadY c h t b o = some y) :
    ∃ v, (loadVar t ⟨l.blk, l.base + o, none⟩).run P w = .ok v w ∧ YR ν y v := by
  unfold loadY at hy
  cases ht : c.ti.get t with
  | none => rw [ht] at hy; cases hy
  | some i =>
    cases hg : getCells h b with
    | none => rw [ht, hg] at hy; cases hy
    | some cs =>
      rw [ht, hg] at hy
      simp only at hy
      obtain ⟨d, inf, z, ti⟩ := tiok hc ht
      unfold Go.loadVar
      rw [rb (ti.run_isAgg w)]
      cases ha : i.agg with
      | true =>
        rw [ha] at hy
        simp only [cond_true, Option.map_eq_some_iff] at hy
        obtain ⟨r, hs, rfl⟩ := hy
        obtain ⟨arr, h1, h2⟩ := hr.load_sub (P := P) hg hl hs
        rw [if_pos rfl, rb (ti.run_size w), rb (h1 w rfl)]
        exact ⟨_, rfl, arr, rfl, h2⟩
      | false =>
        rw [ha] at hy
        simp only [cond_false, Option.map_eq_some_iff] at hy
        obtain ⟨x, hx, rfl⟩ := hy
        obtain ⟨v, h1, h2⟩ := hr.cells hg hl o x hx
        rw [if_neg (by simp)]
        exact ⟨v, run_load_cell h1, h2⟩

theorem bytes_data (s : List UInt8) (n : Nat) : ((⟨⟨s⟩⟩ : ByteArray).extract 0 n).data.toList = s.take n := by
  rw [Lib.extract_data]; simp

/-- A slice's first cells, or a text's. -/
theorem HR.firstCells (hr : HR K B w0 ν h w) {size n k : Nat} {x : V} {v : Value} {cs : List V} (hv : VR ν x v) (hk : Abs.lenOf x = some k) (hn : n ≤ k) (hf : Abs.firstCells h size n x = some cs) :
    ∃ arr : Array Value, (∀ w' : World, w'.heap = w.heap → (Builtin.firstCells size n v).run P w' = .ok arr w') ∧ LRel (VR ν) cs arr.toList := by
  cases x with
  | nils =>
    cases hf
    rw [show v = .slice none 0 0 from hv]
    exact ⟨#[], fun _ _ => rfl, trivial⟩
  | slice b o len cap opn =>
    cases hk
    simp only [Abs.firstCells, Option.bind_eq_some_iff] at hf
    obtain ⟨cs0, hg, hs⟩ := hf
    obtain ⟨l, a, cap', hl, rfl, hle, ha, _⟩ := hv
    rcases ha with h0 | rfl
    · have : n = 0 := by omega
      subst this
      obtain ⟨_, rfl⟩ := sub_some hs
      refine ⟨#[], fun w' _ => ?_, by simp [LRel]⟩
      show (loadCells a (0 * size)).run P w' = _
      rw [Nat.zero_mul]; rfl
    · exact hr.load_sub (P := P) hg hl hs
  | str s =>
    cases hf
    rw [show v = .string ⟨⟨s⟩⟩ from hv]
    refine ⟨_, fun _ _ => rfl, ?_⟩
    rw [Array.toList_map, bytes_data]
    generalize s.take n = l
    induction l with
    | nil => trivial
    | cons b l ih => exact ⟨rfl, ih⟩
  | _ => cases hk

theorem lenOf_run {x : V} {v : Value} {k : Nat} (hv : VR ν x v) (hk : Abs.lenOf x = some k) : (Builtin.lenOf v).run P w = .ok k w := by
  cases x with
  | nils => cases hk; rw [show v = .slice none 0 0 from hv]; rfl
  | slice b o len cap opn => cases hk; obtain ⟨l, a, cap', _, rfl, _⟩ := hv; rfl
  | str s => cases hk; rw [show v = .string ⟨⟨s⟩⟩ from hv]; rfl
  | _ => cases hk

theorem bytesOf_some : ∀ {cs : List V} {l : List UInt8} {vs : List Value}, readOp.bytesOf cs = some l → LRel (VR ν) cs vs → vs = (l.map fun b => (Int.ofNat b.toNat)).map (Value.int .u8)
  | [], l, vs, h, hr => by
    cases vs with
    | nil => cases h; rfl
    | cons _ _ => exact hr.elim
  | x :: cs, l, vs, h, hr => by
    cases vs with
    | nil => exact hr.elim
    | cons v vs =>
      unfold readOp.bytesOf at h
      split at h
      · rename_i e; cases e
      · rename_i n rest e
        cases e
        cases hb : Nat.blt n 256 with
        | false => rw [hb] at h; cases h
        | true =>
          rw [hb] at h
          simp only [cond_true, Option.map_eq_some_iff] at h
          obtain ⟨l', hl', rfl⟩ := h
          have hlt := (blt_iff _ _).1 hb
          rw [bytesOf_some hl' hr.2, show v = .int .u8 (.ofNat n) from hr.1]
          simp only [List.map_cons, List.cons.injEq, Value.int.injEq, true_and, and_true]
          congr 1
          simp [UInt8.toNat_ofNat']
          omega
      · cases h

theorem push_all : ∀ (l : List UInt8) (s : ByteArray), (l.map fun b => (Int.ofNat b.toNat)).foldl (fun (r : ByteArray) n => r.push (UInt8.ofNat n.toNat)) s = ⟨⟨s.data.toList ++ l⟩⟩
  | [], s => by simp
  | b :: l, s => by
    rw [List.map_cons, List.foldl_cons, push_all l]
    have : (s.push (UInt8.ofNat (Int.ofNat b.toNat).toNat)).data.toList = s.data.toList ++ [b] := by
      simp [ByteArray.push]
    rw [this, List.append_assoc]; rfl
end cells

/-! ### Keys -/
section keys
variable {P : Program} {c : Ctx} (hc : CtxOk P c) {ν : Ren} {w : World}

def HitR (ν : Ren) (vk : Value) (es' : List MapEntry) (i0 : Nat) (r : Option (Nat × Y)) (r' : Option (Nat × Value)) : Prop :=
  match r, r' with
  | none, none => True
  | some p, some q => p.1 = q.1 ∧ YR ν p.2 q.2 ∧ i0 ≤ p.1 ∧ ∃ e', es'[p.1 - i0]? = some e' ∧ e'.val = q.2 ∧ Instr.sameBits 10000 e'.key vk = true
  | _, _ => False

theorem HitR.skip {vk : Value} {e : MapEntry} {es' : List MapEntry} {i0 : Nat} {r : Option (Nat × Y)} {r' : Option (Nat × Value)} (h : HitR ν vk es' (i0 + 1) r r') : HitR ν vk (e :: es') i0 r r' := by
  cases r with
  | none => cases r' with
    | none => trivial
    | some _ => exact h
  | some p => cases r' with
    | none => exact h
    | some q =>
      obtain ⟨h1, h2, h3, e', h4, h5⟩ := h
      refine ⟨h1, h2, by omega, e', ?_, h5⟩
      rw [show p.1 - i0 = (p.1 - (i0 + 1)) + 1 by omega]
      simpa using h4

theorem findNow_int {k0 k : IntKind} {a : Int} {ks : Option (List TD)} : ∀ (es : List (Y × Y × Nat)) (es' : List MapEntry) (i : Nat) (r : Option (Nat × Y)), findKey ks (.v (.int k a)) es i = some r → LRel (EntR ν) es es' →
    ∃ r', Instr.findNow (.int k0) (.int k a) es' i = some r' ∧ HitR ν (.int k a) es' i r r'
  | [], es', i, r, h, hl => by
    cases es' with
    | nil => cases h; exact ⟨none, rfl, trivial⟩
    | cons _ _ => exact hl.elim
  | e :: es, es', i, r, h, hl => by
    cases es' with
    | nil => exact hl.elim
    | cons e' es' =>
      obtain ⟨ek, ev, eb⟩ := e
      obtain ⟨⟨h1, h2, h3⟩, hl⟩ := hl
      unfold findKey at h
      simp only at h1 h2 h
      cases ek with
      | agg _ => cases h
      | v x =>
        cases x with
        | int k2 b =>
          simp only at h
          have hkey : e'.key = .int k2 b := h1
          by_cases hk : k = k2
          · subst hk
            simp only [IntKind.beqV, decide_true, cond_true] at h
            rw [intEq_eq] at h
            cases hab : (a == b) with
            | true =>
              rw [hab] at h
              simp only [cond_true, Option.some.injEq] at h
              subst h
              have e : a = b := by simpa using hab
              subst e
              refine ⟨some (i, e'.val), ?_, rfl, h2, Nat.le_refl _, e', by simp, rfl, ?_⟩
              · simp [Instr.findNow, hkey, Instr.sameNow]
              · rw [hkey]; simp [Instr.sameBits]
            | false =>
              rw [hab] at h
              simp only [cond_false] at h
              obtain ⟨r', h4, h5⟩ := findNow_int es es' (i + 1) r h hl
              refine ⟨r', ?_, h5.skip⟩
              simp only [Instr.findNow, hkey, Instr.sameNow, if_true, hab]
              exact h4
          · simp [IntKind.beqV, hk] at h
        | _ => cases h

theorem bytes_beq' (a b : List UInt8) : ((⟨⟨a⟩⟩ : ByteArray) == ⟨⟨b⟩⟩) = (a == b) := by
  rw [Bool.eq_iff_iff, MapKept.bytes_beq]
  simp

theorem findNow_str {a : List UInt8} {ks : Option (List TD)} : ∀ (es : List (Y × Y × Nat)) (es' : List MapEntry) (i : Nat) (r : Option (Nat × Y)), findKey ks (.v (.str a)) es i = some r → LRel (EntR ν) es es' →
    ∃ r', Instr.findNow .string (.string ⟨⟨a⟩⟩) es' i = some r' ∧ HitR ν (.string ⟨⟨a⟩⟩) es' i r r'
  | [], es', i, r, h, hl => by
    cases es' with
    | nil => cases h; exact ⟨none, rfl, trivial⟩
    | cons _ _ => exact hl.elim
  | e :: es, es', i, r, h, hl => by
    cases es' with
    | nil => exact hl.elim
    | cons e' es' =>
      obtain ⟨ek, ev, eb⟩ := e
      obtain ⟨⟨h1, h2, h3⟩, hl⟩ := hl
      unfold findKey at h
      simp only at h1 h2 h
      cases ek with
      | agg _ => cases h
      | v x =>
        cases x with
        | str b =>
          simp only at h
          have hkey : e'.key = .string ⟨⟨b⟩⟩ := h1
          rw [bytesEq_eq] at h
          cases hab : (a == b) with
          | true =>
            rw [hab] at h
            simp only [cond_true, Option.some.injEq] at h
            subst h
            have e : a = b := by simpa using hab
            subst e
            refine ⟨some (i, e'.val), ?_, rfl, h2, Nat.le_refl _, e', by simp, rfl, ?_⟩
            · simp [Instr.findNow, hkey, Instr.sameNow, bytes_beq']
            · rw [hkey]; simp [Instr.sameBits, bytes_beq']
          | false =>
            rw [hab] at h
            simp only [cond_false] at h
            obtain ⟨r', h4, h5⟩ := findNow_str es es' (i + 1) r h hl
            refine ⟨r', ?_, h5.skip⟩
            simp only [Instr.findNow, hkey, Instr.sameNow, bytes_beq', hab]
            exact h4
        | _ => cases h

theorem sameBits_scalar {d : TD} {a b : V} {va vb : Value} (ha : VR ν a va) (hb : VR ν b vb) (h : eqScalar d a b = some true) (n : Nat) : Instr.sameBits n vb va = true := by
  rcases eqScalar_inv h with ⟨rfl, x, y, rfl, rfl, e⟩ | ⟨k0, rfl, k, x, y, rfl, rfl, e⟩ | ⟨rfl, x, y, rfl, rfl, e⟩
  · cases ha; cases hb
    have : x = y := by simpa using e.symm
    subst this; cases n <;> simp [Instr.sameBits]
  · cases ha; cases hb
    have : x = y := by simpa using e.symm
    subst this; cases n <;> simp [Instr.sameBits]
  · cases ha; cases hb
    have : x = y := by simpa using e.symm
    subst this; cases n <;> simp [Instr.sameBits, bytes_beq']

theorem sameBits_cells (n : Nat) : ∀ (ks : List TD) (a b : List V) (xs ys : List Value), eqCells ks a b = some true → LRel (VR ν) a xs → LRel (VR ν) b ys →
    xs.length = ys.length ∧ (ys.zip xs).all (fun p => Instr.sameBits n p.1 p.2) = true := by
  intro ks
  induction ks with
  | nil =>
    intro a b xs ys h ha hb
    cases a with
    | nil => cases b with
      | nil =>
        cases xs with
        | nil => cases ys with
          | nil => exact ⟨rfl, rfl⟩
          | cons _ _ => exact hb.elim
        | cons _ _ => exact ha.elim
      | cons _ _ => cases h
    | cons _ _ => cases h
  | cons d ks ih =>
    intro a b xs ys h ha hb
    cases a with
    | nil => cases h
    | cons a as =>
      cases b with
      | nil => cases h
      | cons b bs =>
        simp only [eqCells, Option.bind_eq_some_iff, Option.map_eq_some_iff] at h
        obtain ⟨r1, h1, r2, h2, h3⟩ := h
        simp only [Bool.and_eq_true] at h3
        obtain ⟨rfl, rfl⟩ := h3
        cases xs with
        | nil => exact ha.elim
        | cons x xs =>
          cases ys with
          | nil => exact hb.elim
          | cons y ys =>
            obtain ⟨i1, i2⟩ := ih as bs xs ys h2 ha.2 hb.2
            refine ⟨by simp [i1], ?_⟩
            simp only [List.zip_cons_cons, List.all_cons, i2, Bool.and_true]
            exact sameBits_scalar ha.1 hb.1 h1 n

theorem findAsking_agg {kt : TypeId} {ks : List TD} (hk : cmpT P kt = some ks) {a : List V} {xs : Array Value} (ha : LRel (VR ν) a xs.toList) :
    ∀ (es : List (Y × Y × Nat)) (es' : List MapEntry) (i : Nat) (r : Option (Nat × Y)), findKey (some ks) (.agg a) es i = some r → LRel (EntR ν) es es' →
    ∃ r', (Instr.findAsking kt (.agg xs) es' i).run P w = .ok r' w ∧ HitR ν (.agg xs) es' i r r'
  | [], es', i, r, h, hl => by
    cases es' with
    | nil => cases h; exact ⟨none, rfl, trivial⟩
    | cons _ _ => exact hl.elim
  | e :: es, es', i, r, h, hl => by
    cases es' with
    | nil => exact hl.elim
    | cons e' es' =>
      obtain ⟨ek, ev, eb⟩ := e
      obtain ⟨⟨h1, h2, h3⟩, hl⟩ := hl
      unfold findKey at h
      simp only at h1 h2 h
      cases ek with
      | v x => cases h
      | agg b =>
        obtain ⟨ys, hkey, hys⟩ := h1
        simp only [Option.bind_some] at h
        split at h
        · rename_i he
          cases h
          have hq := (cells_equal (w := w) hk he ha hys 9998).1
          obtain ⟨hs1, hs2⟩ := sameBits_cells 9999 ks a b xs.toList ys.toList he ha hys
          refine ⟨some (i, e'.val), ?_, rfl, h2, Nat.le_refl _, e', by simp, rfl, ?_⟩
          · unfold Instr.findAsking
            rw [hkey]
            rw [rb (show (Op.equal kt (.agg xs) (.agg ys)).run P w = .ok true w from hq)]
            rfl
          · rw [hkey]
            simp only [Instr.sameBits, Bool.and_eq_true]
            exact ⟨by simpa using hs1.symm, hs2⟩
        · rename_i he
          have hq := (cells_equal (w := w) hk he ha hys 9998).1
          obtain ⟨r', h4, h5⟩ := findAsking_agg hk ha es es' (i + 1) r h hl
          refine ⟨r', ?_, h5.skip⟩
          unfold Instr.findAsking
          rw [hkey]
          rw [rb (show (Op.equal kt (.agg xs) (.agg ys)).run P w = .ok false w from hq)]
          exact h4
        · cases h

theorem flat_length : ∀ (fs : List Field) (i : Nat) (ks : List TD), flatFields P fs i = some ks → ks.length = fs.length
  | [], _, _, h => by cases h; rfl
  | f :: fs, i, ks, h => by
    unfold flatFields at h
    cases hb : (Nat.beq f.offset i && f.name != "_") with
    | false => rw [hb] at h; cases h
    | true =>
      rw [hb] at h
      simp only [cond_true, Option.bind_eq_some_iff, Option.map_eq_some_iff] at h
      obtain ⟨d, hd, ks', hks', rfl⟩ := h
      simp [flat_length fs (i + 1) ks' hks']

/-- A struct's cells are no faulty key. -/
theorem checkKey_struct {kt : TypeId} {fs : Array Field} (hu : P.underlying kt = some (.struct fs)) {ks : List TD} (hf : flatFields P fs.toList 0 = some ks) {xs : Array Value} (hlen : fs.toList.length ≤ xs.size) (em : Bool) (n : Nat) :
    (Instr.checkKey em (n + 2) kt (.agg xs)).run P w = .ok () w := by
  rw [Instr.checkKey]
  simp only [Sem.run_bind, run_underlying hu, Result.andThen_ok]
  rw [← Array.forIn_toList]
  generalize fs.toList = L at hf hlen
  obtain ⟨i, hi⟩ : ∃ i : Nat, i = 0 := ⟨0, rfl⟩
  replace hlen : i + L.length ≤ xs.size := by omega
  rw [← hi] at hf
  clear hi
  induction L generalizing i ks with
  | nil => simp
  | cons f fs ih =>
    unfold flatFields at hf
    cases hb : (Nat.beq f.offset i && f.name != "_") with
    | false => rw [hb] at hf; cases hf
    | true =>
      rw [hb] at hf
      simp only [Bool.and_eq_true, bne_iff_ne, ne_eq] at hb
      simp only [cond_true, Option.bind_eq_some_iff, Option.map_eq_some_iff] at hf
      obtain ⟨d, hd, ks', hks', _⟩ := hf
      have ho : f.offset = i := Nat.eq_of_beq_eq_true hb.1
      have hlt : i < xs.size := by simp at hlen; omega
      have hp := scalar_part (w := w) hd (cs := xs) (o := f.offset) (v := xs[i]) (by rw [ho]; exact Array.getElem?_eq_getElem hlt)
      have hck : ∀ v, (Instr.checkKey em (n + 1) f.type v).run P w = .ok () w := by
        intro v
        unfold Instr.checkKey
        rcases scalarT_und hd with ⟨_, hu⟩ | ⟨k, _, hu⟩ | ⟨_, hu⟩ <;> (rw [rb (run_underlying hu w)]; cases v <;> rfl)
      simp only [List.forIn_cons, Sem.run_bind, hb.2, ne_eq, not_false_eq_true, if_true, Result.andThen_ok, hp, hck, Sem.run_pure]
      exact ih (i + 1) hks' (by simp at hlen; omega)

include hc in
theorem findAt_run {kt : TypeId} {k : Y} {es : List (Y × Y × Nat)} {r : Option (Nat × Y)} (h : findAt c kt k es = some r) {vk : Value} (hk : YR ν k vk) {es' : List MapEntry} (hl : LRel (EntR ν) es es') :
    (∀ em, (Instr.checkKey em 10000 kt vk).run P w = .ok () w) ∧ ∃ r', (Instr.findKey kt vk es').run P w = .ok r' w ∧ HitR ν vk es' 0 r r' := by
  unfold findAt at h
  cases ht : c.ti.get kt with
  | none => rw [ht] at h; cases h
  | some ki =>
    rw [ht] at h
    simp only at h
    obtain ⟨d, inf, z, ti⟩ := tiok hc ht
    cases hok : keyOk ki k with
    | false => rw [hok] at h; cases h
    | true =>
      rw [hok] at h
      simp only [cond_true] at h
      have hscal : (∀ em, (Instr.checkKey em 10000 kt vk).run P w = .ok () w) ∨ True := .inr trivial
      cases k with
      | agg a =>
        obtain ⟨xs, rfl, hxs⟩ := hk
        unfold keyOk at hok
        simp only at hok
        cases hd : ki.d with
        | struct l =>
          cases hcm : ki.cmp with
          | none => rw [hd, hcm] at hok; cases hok
          | some ks =>
            rw [hd, hcm] at hok
            rw [hcm] at h
            have hal : a.length = ks.length := Nat.eq_of_beq_eq_true hok
            obtain ⟨fs, rfl, _, _⟩ := ti.desc_struct hd
            have hcmp : cmpT P kt = some ks := by rw [← hcm, ti.eq]
            have hff : flatFields P fs.toList 0 = some ks := by
              have := hcmp
              unfold cmpT at this
              rw [ti.und] at this
              simp only at this
              cases hg : (P.eqGuardType P.depth kt || P.stoodInHeld kt) with
              | true => rw [hg] at this; cases this
              | false => rw [hg] at this; exact this
            refine ⟨fun em => checkKey_struct ti.und hff ?_ em 9998, ?_⟩
            · have e1 := flat_length _ _ _ hff
              have e2 := hxs.length
              have e3 : xs.toList.length = xs.size := by simp
              omega
            · obtain ⟨r', h1, h2⟩ := findAsking_agg (w := w) hcmp hxs es es' 0 r h hl
              cases es' with
              | nil =>
                cases es with
                | cons _ _ => exact hl.elim
                | nil =>
                  cases h
                  refine ⟨none, ?_, trivial⟩
                  unfold Instr.findKey
                  rw [rb (ti.run_und w)]
                  rfl
              | cons e' es' =>
                refine ⟨r', ?_, h2⟩
                unfold Instr.findKey
                rw [rb (ti.run_und w)]
                exact h1
        | _ => rw [hd] at hok; cases ki.cmp <;> cases hok
      | v x =>
        cases x with
        | int kk n =>
          have e : vk = .int kk n := hk
          subst e
          cases hd : ki.d with
          | int k0 =>
            have e := ti.desc_int hd
            subst e
            refine ⟨fun em => by unfold Instr.checkKey; rw [rb (ti.run_und w)]; rfl, ?_⟩
            obtain ⟨r', h1, h2⟩ := findNow_int (k0 := k0) es es' 0 r h hl
            exact ⟨r', MapKept.run_findKey ti.und h1, h2⟩
          | _ => unfold keyOk at hok; simp only [hd] at hok; cases hok
        | str s =>
          have e : vk = .string ⟨⟨s⟩⟩ := hk
          subst e
          cases hd : ki.d with
          | str =>
            have e := ti.desc_str hd
            subst e
            refine ⟨fun em => by unfold Instr.checkKey; rw [rb (ti.run_und w)]; rfl, ?_⟩
            obtain ⟨r', h1, h2⟩ := findNow_str es es' 0 r h hl
            exact ⟨r', MapKept.run_findKey ti.und h1, h2⟩
          | _ => unfold keyOk at hok; simp only [hd] at hok; cases hok
        | _ => cases hok
end keys

section reads
variable {K : CodeP} {B : Nat} {w0 w : World} {ν : Ren} {h : H} {P : Program} {c : Ctx} (hc : CtxOk P c)

include hc in
theorem mapT_some {t : Nat} {ke : Nat × Nat} (h : mapT c t = some ke) : P.underlying t = some (.map ke.1 ke.2) := by
  unfold mapT at h
  simp only [Option.bind_eq_some_iff] at h
  obtain ⟨i, hi, h⟩ := h
  obtain ⟨d, inf, z, ti⟩ := tiok hc hi
  cases hd : i.d with
  | map k e =>
    rw [hd] at h
    cases h
    rw [ti.und, ti.desc_map hd]
  | _ => rw [hd] at h; cases h

theorem HR.entries (hr : HR K B w0 ν h w) {m : V} {vm : Value} (hm : VR ν m vm) {es : List (Y × Y × Nat)} (he : entriesOf h m = some es) :
    (vm = .map none ∧ es = []) ∨ ∃ r es' clock, vm = .map (some r) ∧ w.heap[r]? = some (.map es' clock) ∧ LRel (EntR ν) es es'.toList := by
  cases m with
  | nilm => cases he; exact .inl ⟨hm, rfl⟩
  | map b =>
    simp only [entriesOf, Option.map_eq_some_iff] at he
    obtain ⟨p, hp, rfl⟩ := he
    obtain ⟨l, hl, rfl⟩ := hm
    obtain ⟨es', h1, h2⟩ := hr.obj b _ l (getMap_some hp) hl
    exact .inr ⟨l.blk, es', p.2, rfl, h1, h2⟩
  | _ => cases he

def hitY (ei : TI) (r : Option (Nat × Y)) : Y := match r with | some p => p.2 | none => zeroY ei

include hc in
theorem lookup_run (hr : HR K B w0 ν h w) {t : Nat} {m : V} {k : Y} {ok : Bool} {x : X} (hx : lookupOp c h t m k ok = some x) {vm vk : Value} (hm : VR ν m vm) (hk : YR ν k vk) :
    ∃ v, (Instr.lookup t vm vk ok).run P w = .ok v w ∧ XR ν x v := by
  unfold lookupOp at hx
  simp only [Option.bind_eq_some_iff, Option.map_eq_some_iff] at hx
  obtain ⟨ke, hke, ei, hei, es, hes, r, hf, rfl⟩ := hx
  have hu := mapT_some hc hke
  obtain ⟨d, inf, z, ti⟩ := tiok hc hei
  have hz : YR ν (Abs.zeroY ei) z := ti.zeroY ν
  have fin : ∀ L : Array MapEntry, LRel (EntR ν) es L.toList → ∃ v, (do
      Instr.checkKey L.isEmpty 10000 ke.1 vk
      let q ← Instr.findKey ke.1 vk L.toList
      match q with
      | some (_, v) => pure (if ok then .tuple #[v, .bool true] else v)
      | none => do let z ← zeroValue ke.2; pure (if ok then .tuple #[z, .bool false] else z) : Sem Value).run P w = .ok v w ∧
        XR ν (bif ok then .tup [hitY ei r, .v (.bool r.isSome)] else .y (hitY ei r)) v := by
    intro L hL
    obtain ⟨hck, r', hfk, hhit⟩ := findAt_run (w := w) hc hf hk hL
    rw [rb (hck _), rb hfk]
    cases r with
    | none => cases r' with
      | some q => exact hhit.elim
      | none =>
        simp only
        rw [rb (ti.run_zero w)]
        cases ok with
        | true => exact ⟨_, rfl, _, rfl, hz, rfl, trivial⟩
        | false => exact ⟨_, rfl, hz⟩
    | some p => cases r' with
      | none => exact hhit.elim
      | some q =>
        cases ok with
        | true => exact ⟨_, rfl, _, rfl, hhit.2.1, rfl, trivial⟩
        | false => exact ⟨_, rfl, hhit.2.1⟩
  rcases hr.entries hm hes with ⟨rfl, rfl⟩ | ⟨r0, es', clock, rfl, h1, h2⟩
  · obtain ⟨v, h3, h4⟩ := fin #[] trivial
    refine ⟨v, ?_, h4⟩
    rw [← h3]
    unfold Instr.lookup
    rw [rb (run_underlying hu w)]
    rfl
  · obtain ⟨v, h3, h4⟩ := fin es' h2
    refine ⟨v, ?_, h4⟩
    rw [← h3]
    unfold Instr.lookup
    rw [rb (run_underlying hu w)]
    simp only
    rw [rb (MapKept.run_getObj_map h1)]
    rfl

include hc in
theorem read_sound (hr : HR K B w0 ν h w) {env : Env} {a : Act} {o : Oper} {x : X} (he : EvR ν env a o.op.operands.toList) (hx : readOp c h env o.op = some x) :
    Gives P ν w (· = x) (execOp a.eval o) := by
  obtain ⟨dst, op, type, pos, after, guard⟩ := o
  simp only at he hx
  cases op with
  | load t p =>
    simp only [readOp] at hx
    split at hx
    · rename_i b off hp
      simp only [Option.map_eq_some_iff] at hx
      obtain ⟨y, hy, rfl⟩ := hx
      obtain ⟨l, hl, e⟩ := (he p (by simp [Op.operands])).v hp
      obtain ⟨v, h1, h2⟩ := hr.loadVar hc hl hy
      refine .of rfl ?_ h2
      rw [e]
      exact h1
    · cases hx
  | lookup t m k ok =>
    simp only [readOp] at hx
    split at hx
    · rename_i mv kv hm hk
      obtain ⟨v, h1, h2⟩ := lookup_run hc hr hx ((he m (by simp [Op.operands])).v hm) ((he k (by simp [Op.operands])).yy hk)
      exact .of rfl h1 h2
    · cases hx
  | convert s d p =>
    simp only [readOp] at hx
    split at hx
    · rename_i v hp
      cases ht : toText c s d with
      | false => rw [ht] at hx; cases hx
      | true =>
        rw [ht] at hx
        simp only [cond_true, Option.bind_eq_some_iff, Option.map_eq_some_iff] at hx
        obtain ⟨n, hn, cs, hcs, l, hl, rfl⟩ := hx
        have hr2 := (he p (by simp [Op.operands])).v hp
        unfold toText at ht
        cases hs : c.ti.get s with
        | none => rw [hs] at ht; cases ht
        | some si =>
          cases hd : c.ti.get d with
          | none => rw [hs, hd] at ht; cases ht
          | some di =>
            rw [hs, hd] at ht
            simp only at ht
            cases hsd : si.d with
            | slice e =>
              cases hdd : di.d with
              | str =>
                rw [hsd, hdd] at ht
                simp only at ht
                obtain ⟨d1, _, _, t1⟩ := tiok hc hs
                obtain ⟨d2, _, _, t2⟩ := tiok hc hd
                have u1 : P.underlying s = some (.slice e) := by rw [t1.und, t1.desc_slice hsd]
                have u2 : P.underlying d = some .string := by rw [t2.und, t2.desc_str hdd]
                have u3 : P.underlying e = some (.int .u8) := by
                  unfold isU8 at ht
                  cases hee : c.ti.get e with
                  | none => rw [hee] at ht; cases ht
                  | some ei =>
                    rw [hee] at ht
                    simp only at ht
                    obtain ⟨d3, _, _, t3⟩ := tiok hc hee
                    split at ht
                    · rename_i h8; rw [t3.und, t3.desc_int h8]
                    · cases ht
                cases v with
                | nils =>
                  cases hn; cases hcs; cases hl
                  refine .of (v := .string .empty) rfl ?_ rfl
                  rw [show a.eval p = .slice none 0 0 from hr2, run_convert_bytes_string w s d e none 0 0 u1 u3 u2]
                  rfl
                | slice b o len cap opn =>
                  cases hn
                  obtain ⟨arr, h1, h2⟩ := hr.firstCells (P := P) hr2 rfl (Nat.le_refl _) hcs
                  obtain ⟨l0, a0, cap', hl0, e0, _⟩ := hr2
                  rw [e0] at h1
                  have hb := bytesOf_some hl h2
                  have e1 : arr = ((l.map fun b => (Int.ofNat b.toNat)).map (Value.int .u8)).toArray := by rw [← hb]
                  rw [e1] at h1
                  have h1' : (loadCells a0 (n * 1)).run P w = _ := h1 w rfl
                  rw [Nat.mul_one] at h1'
                  refine .of (v := .string ⟨⟨l⟩⟩) rfl ?_ rfl
                  rw [e0, run_convert_bytes_string w s d e (some a0) _ cap' u1 u3 u2,
                    run_bytesToString w a0 _ cap' _ h1', push_all]
                  rfl
                | _ => cases hn
              | _ => rw [hsd, hdd] at ht; cases ht
            | _ => rw [hsd] at ht; cases ht
    · cases hx
  | call c' =>
    obtain ⟨callee, args, ats⟩ := c'
    obtain ⟨args⟩ := args
    obtain ⟨ats⟩ := ats
    simp only [readOp] at hx
    split at hx
    · rename_i x0 t ts
      obtain ⟨csx, hex⟩ := exec_builtin a.eval dst Builtin.len [x0] ⟨t :: ts⟩ type pos after guard
      rw [hex]
      have hx0 := he x0 (by simp [Op.operands, Call.operands])
      cases hm : isMapT c t with
      | false => rw [hm] at hx; cases hx
      | true =>
        rw [hm] at hx
        simp only [cond_true] at hx
        have hu : ∃ k e, P.underlying t = some (.map k e) := by
          unfold isMapT at hm
          split at hm
          · rename_i ti ht
            split at hm
            · rename_i k e hd
              obtain ⟨d, _, _, tk⟩ := tiok hc ht
              exact ⟨k, e, by rw [tk.und, tk.desc_map hd]⟩
            · cases hm
          · cases hm
        obtain ⟨k, e, hu⟩ := hu
        split at hx
        · rename_i hv
          cases hx
          have e2 : a.eval x0 = .map none := hx0.v hv
          refine .of (v := .int .i64 0) rfl ?_ rfl
          unfold Builtin.len_
          simp only [List.getElem?_toArray, List.map_cons, List.getElem?_cons_zero]
          rw [rb (run_underlying hu w), e2]; rfl
        · rename_i b hv
          simp only [Option.map_eq_some_iff] at hx
          obtain ⟨p, hp, rfl⟩ := hx
          obtain ⟨l, hl, e2⟩ := hx0.v hv
          obtain ⟨es', h1, h2⟩ := hr.obj b _ l (getMap_some hp) hl
          refine .of (v := .int .i64 p.1.length) rfl ?_ rfl
          unfold Builtin.len_
          simp only [List.getElem?_toArray, List.map_cons, List.getElem?_cons_zero]
          rw [rb (run_underlying hu w), e2]
          simp only
          rw [rb (MapKept.run_getObj_map h1), h2.length]
          simp; rfl
        · cases hx
    · cases hx
  | _ => cases hx
end reads
end Go.Abs
