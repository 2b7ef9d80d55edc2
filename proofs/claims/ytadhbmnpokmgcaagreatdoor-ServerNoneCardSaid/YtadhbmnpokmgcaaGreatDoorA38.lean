/- Functions of Go's library that are taken by what they come to. -/
import Derived.Test.YtadhbmnpokmgcaaGreatDoorA37
import Derived.Test.YtadhbmnpokmgcaaGreatDoorA2
import Derived.Lib.Bytealg
import Derived.Lib.Join
namespace Go.Abs
open Go Go.RowKit

section
variable {K : CodeP} {B : Nat} {w0 w : World} {ν : Ren} {h : H} {P : Program}

/-- A function without a body: how it runs. -/
def ExternOf (P : Program) (g : FuncId) (e : Array Value → Sem Value) : Prop := ∀ args w, (callFunc g args).run P w = ((e args).run P w).andThen fun v w' => .ok (.value v) w'

theorem extern_one {g : FuncId} {e : Array Value → Sem Value} {p : List Y → H → Res} (he : ExternOf P g e)
    (hs : ∀ ν h w ys (vs : Array Value) (Q : X × H → Prop), HR K B w0 ν h w → LRel (YR ν) ys vs.toList → (p ys h).all Q → ∃ v w', (e vs).run P w = .ok v w' ∧ RetEnd K B w0 ν h w Q (.returned v) w') : PrimOne K B w0 P g p := by
  intro m ν h w ys vs Q hr hv hx
  obtain ⟨v, w', h1, h2⟩ := hs ν h w ys vs Q hr hv hx
  exact .inr ⟨v, w', by rw [he, h1]; rfl, h2⟩

theorem LRel.two {α β : Type} {R : α → β → Prop} {a b : α} {vs : Array β} (h : LRel R [a, b] vs.toList) : ∃ u v, vs = #[u, v] ∧ R a u ∧ R b v := by
  obtain ⟨l⟩ := vs
  match l, h with
  | [u, v], h => exact ⟨u, v, rfl, h.1, h.2.1⟩
  | [], h => exact h.elim
  | [_], h => exact h.2.elim
  | _ :: _ :: _ :: _, h => exact h.2.2.elim

theorem byte_beq {b : Nat} (hb : b < 256) (x : UInt8) : (x == (Int.ofNat b).toNat.toUInt8) = Nat.beq x.toNat b := by
  have e : (Int.ofNat b).toNat.toUInt8.toNat = b := by
    show b.toUInt8.toNat = b
    simp [Nat.toUInt8, Nat.mod_eq_of_lt hb]
  rw [Bool.eq_iff_iff, beq_iff_eq]
  constructor
  · rintro rfl; rw [e]; exact Nat.beq_refl _
  · intro h
    have h := Nat.eq_of_beq_eq_true h
    apply UInt8.toNat_inj.1
    rw [e, h]

theorem idxB_eq {b : Nat} (hb : b < 256) : ∀ (l : List UInt8) (i : Nat), idxB b l i = if Lib.indexByte l (Int.ofNat b).toNat.toUInt8 = -1 then -1 else (i : Int) + Lib.indexByte l (Int.ofNat b).toNat.toUInt8
  | [], i => rfl
  | x :: l, i => by
    unfold idxB Lib.indexByte
    rw [byte_beq hb]
    cases hx : Nat.beq x.toNat b with
    | true => simp
    | false =>
      simp only [cond_false, Bool.false_eq_true, if_false]
      rw [idxB_eq hb l (Nat.succ i)]
      have := Lib.indexByte_ge l (Int.ofNat b).toNat.toUInt8
      generalize Lib.indexByte l (Int.ofNat b).toNat.toUInt8 = q at this ⊢
      by_cases hm : q = -1
      · subst hm; rfl
      · have hne : (q == -1) = false := by simpa using hm
        rw [if_neg hm, hne]
        simp only [Bool.false_eq_true, if_false]
        rw [if_neg (by omega)]
        omega

theorem idx_ok {g : FuncId} (he : ExternOf P g Extern.BytealgIndexByte.indexByte) : PrimOne K B w0 P g idxP := by
  refine extern_one he fun ν h w ys vs Q hr hv hx => ?_
  unfold idxP at hx
  split at hx
  · rename_i s b
    obtain ⟨hb, hQ⟩ := (guardT_all _ _).1 hx
    have hb : b < 256 := Nat.lt_of_succ_le (Nat.le_of_ble_eq_true hb)
    obtain ⟨u, v, rfl, e1, e2⟩ := LRel.two hv
    cases e1; cases e2
    refine ⟨_, w, Lib.run_indexByteString _ _ w, _, h, ν, hQ, ?_, hr, Ext.refl _ _ _⟩
    show Value.int .i64 (Lib.indexByte s _) = .int .i64 (idxB b s 0)
    congr 1
    rw [idxB_eq hb]
    split
    · rename_i e; exact e
    · omega
  · exact hx.elim

theorem cntB_eq {b : Nat} (hb : b < 256) : ∀ (l : List UInt8) (n : Nat), cntB b l n = n + Lib.countByte l (Int.ofNat b).toNat.toUInt8
  | [], n => rfl
  | x :: l, n => by
    unfold cntB Lib.countByte
    rw [List.count_cons, byte_beq hb, cntB_eq hb l, cntB_eq hb l]
    unfold Lib.countByte
    cases Nat.beq x.toNat b <;> simp <;> omega

theorem cnt_ok {g : FuncId} (he : ExternOf P g Extern.BytealgCount.count) : PrimOne K B w0 P g cntP := by
  refine extern_one he fun ν h w ys vs Q hr hv hx => ?_
  unfold cntP at hx
  split at hx
  · rename_i s b
    obtain ⟨hb, hQ⟩ := (guardT_all _ _).1 hx
    have hb : b < 256 := Nat.lt_of_succ_le (Nat.le_of_ble_eq_true hb)
    obtain ⟨u, v, rfl, e1, e2⟩ := LRel.two hv
    cases e1; cases e2
    refine ⟨_, w, Lib.run_countString _ _ w, _, h, ν, hQ, ?_, hr, Ext.refl _ _ _⟩
    show Value.int .i64 ((Lib.countByte s _ : Nat) : Int) = .int .i64 (Int.ofNat (cntB b s 0))
    rw [cntB_eq hb, Nat.zero_add]
    rfl
  · exact hx.elim

/-! ### strings.Join -/
theorem joinL_some {sep : List UInt8} : ∀ {cs : List V} {l : List UInt8}, joinL sep cs = some l → ∃ strs : List (List UInt8), cs = strs.map V.str ∧ l = Lib.join strs sep
  | [], l, h => by cases h; exact ⟨[], rfl, rfl⟩
  | [.str x], l, h => by cases h; exact ⟨[x], rfl, (Lib.join_one _ _).symm⟩
  | .str x :: y :: r, l, h => by
    have h : (joinL sep (y :: r)).map (fun l => x ++ (sep ++ l)) = some l := h
    rw [Option.map_eq_some_iff] at h
    obtain ⟨l0, h0, rfl⟩ := h
    obtain ⟨strs, e1, e2⟩ := joinL_some h0
    match strs, e1, e2 with
    | s :: r', e1, e2 =>
      refine ⟨x :: s :: r', by rw [List.map_cons, ← e1], ?_⟩
      rw [e2, Lib.join_cons, Lib.join_cons]
      simp [Lib.joinTail, List.append_assoc]
    | [], e1, e2 => cases e1

theorem join_ok {g : FuncId} {fn : Func} {code : Code} (hf : P.funcs[g]? = some fn) (hb : fn.body = some code) (hn : (fn.name == "runtime.NumGoroutine") = false)
    (j0 : ∀ (a : Option Addr) (c : Nat) (sep : ByteArray) (w : World), Calls P g #[.slice a 0 c, .string sep] w fun e w' => e = .returned (.string ⟨#[]⟩) ∧ w' = w)
    (j1 : ∀ (bk o c : Nat) (xs : List ByteArray) (sep : ByteArray) (w : World) (_ : ∀ (j : Nat) x, xs[j]? = some x → w.cell? ⟨bk, o + j, none⟩ = some (.string x)) (_ : bk < w.heap.size) (_ : xs.length ≤ 140737488355328) (_ : xs.length ≤ c)
      (_ : (Lib.join (xs.map (·.data.toList)) sep.data.toList).length ≤ 140737488355328),
      Calls P g #[.slice (some ⟨bk, o, none⟩) xs.length c, .string sep] w fun e w' => e = .returned (.string ⟨(Lib.join (xs.map (·.data.toList)) sep.data.toList).toArray⟩) ∧ Below w.heap.size w w') : PrimOne K B w0 P g joinP := by
  intro m ν h w ys vs Q hr hv hx
  refine .inl ⟨callFunc_enter hf hb hn vs w, callsIn_wide.2 ?_⟩
  unfold joinP at hx
  have none_ : ∀ (a : Option Addr) (c : Nat) (sep : List UInt8), Q (.y (.v (.str [])), h) → Calls P g #[.slice a 0 c, .string ⟨⟨sep⟩⟩] w (RetEnd K B w0 ν h w Q) := fun a c sep hQ =>
    (j0 a c _ w).mono fun e w' ⟨e1, e2⟩ => by subst e1; subst e2; exact ⟨_, h, ν, hQ, rfl, hr, Ext.refl _ _ _⟩
  split at hx
  · rename_i sep
    obtain ⟨u, v, rfl, e1, e2⟩ := LRel.two hv
    cases e1; cases e2
    exact none_ _ _ _ hx
  · rename_i b o n cap opn sep
    obtain ⟨u, v, rfl, e1, e2⟩ := LRel.two hv
    obtain rfl : v = .string ⟨⟨sep⟩⟩ := e2
    obtain ⟨l, a, cap', hl, rfl, hle, ha, _⟩ := e1
    obtain ⟨cs0, hcs, hx⟩ := okO_some hx
    obtain ⟨cs, hsub, hx⟩ := okO_some hx
    obtain ⟨t, hj, hx⟩ := okO_some hx
    obtain ⟨hg, hQ⟩ := (guardT_all _ _).1 hx
    simp only [Bool.and_eq_true] at hg
    have g1 := Nat.le_of_ble_eq_true hg.1
    have g2 := Nat.le_of_ble_eq_true hg.2
    obtain ⟨strs, rfl, rfl⟩ := joinL_some hj
    obtain ⟨hin, hsub⟩ := sub_some hsub
    have hlen : strs.length = n := by
      have := congrArg List.length hsub
      simp only [List.length_map, List.length_take, List.length_drop] at this
      omega
    by_cases h0 : cap' = 0
    · have hn0 : n = 0 := by omega
      subst hn0
      have : strs = [] := List.eq_nil_of_length_eq_zero hlen
      subst this
      exact none_ _ _ _ hQ
    · obtain rfl := ha.resolve_left h0
      obtain ⟨ro, hgb⟩ := getCells_some hcs
      have hmap : (strs.map fun s => (⟨⟨s⟩⟩ : ByteArray)).map (·.data.toList) = strs := by
        rw [List.map_map]
        exact (List.map_congr_left fun s _ => rfl).trans (List.map_id strs)
      have hc := j1 l.blk (l.base + o) cap' (strs.map fun s => (⟨⟨s⟩⟩ : ByteArray)) ⟨⟨sep⟩⟩ w (fun j x hx => by
        rw [List.getElem?_map, Option.map_eq_some_iff] at hx
        obtain ⟨s, hs, rfl⟩ := hx
        have hjn : j < n := by rw [← hlen]; exact (List.getElem?_eq_some_iff.1 hs).1
        have hcj : cs0[o + j]? = some (.str s) := by
          have : (strs.map V.str)[j]? = some (.str s) := by rw [List.getElem?_map, hs]; rfl
          rw [hsub, List.getElem?_take, if_pos hjn, List.getElem?_drop] at this
          exact this
        obtain ⟨v, v1, v2⟩ := hr.cells hcs hl (o + j) _ hcj
        rw [Nat.add_assoc, v1]
        exact congrArg some v2) (hr.lt hgb hl) (by rw [List.length_map, hlen]; exact g2) (by rw [List.length_map, hlen]; exact hle) (by rw [hmap]; exact g1)
      rw [List.length_map, hlen, hmap] at hc
      refine hc.mono fun e w' ⟨e1, e2⟩ => ?_
      subst e1
      obtain ⟨k1, k2⟩ := hr.above e2
      exact ⟨_, h, ν, hQ, rfl, k1, k2⟩
  · exact hx.elim

/-! ### slices.overlaps -/
theorem stringish_run (a : Addr) (t : TypeId × Nat) (hs : w.shape? a.block = some t) : ∃ q, (stringish a).run P w = .ok q w := by
  unfold stringish
  cases hf : w.frozen? a with
  | true => exact ⟨true, by simp [frozen, Sem.run, hf]⟩
  | false => exact ⟨w.frozen? ⟨a.block, t.2, none⟩, by simp [frozen, shape, Sem.run, hf, hs]⟩

theorem mayBeOne_run (a b : Addr) (ta tb : TypeId × Nat) (ha : w.shape? a.block = some ta) (hb : w.shape? b.block = some tb) : ∃ q, (mayBeOne a b).run P w = .ok q w := by
  obtain ⟨qa, h1⟩ := stringish_run (P := P) a ta ha
  obtain ⟨qb, h2⟩ := stringish_run (P := P) b tb hb
  unfold mayBeOne
  exact ⟨(qa && qb) || (qa && (match some ta with | some (_, 0) => true | _ => false)) || (qb && (match some tb with | some (_, 0) => true | _ => false)), by
    simp only [Sem.run_bind, h1, h2, Result.andThen_ok, Sem.run_pure, shape, Sem.run, ha, hb]
    rfl⟩

theorem noView_run (a : Addr) (ta : TypeId × Nat) (ha : w.shape? a.block = some ta) : (noView a).run P w = .ok () w := by
  simp [noView, viewAt, shape, Sem.run, ha]

theorem overlaps_ok {g : FuncId} {tS tR e : TypeId} (he : ExternOf P g (Extern.SlicesOverlaps.overlaps #[tS, tS] #[tR])) (ht : P.underlying tS = some (.slice e)) (size : Nat) (hz : ∀ w, (Go.sizeOf e).run P w = .ok size w) : PrimOne K B w0 P g overlapsP := by
  refine extern_one he fun ν h w ys vs Q hr hv hx => ?_
  unfold overlapsP at hx
  split at hx
  · rename_i a oa la ca pa b ob lb cb pb
    obtain ⟨u, v, rfl, e1, e2⟩ := LRel.two hv
    obtain ⟨l, aa, capa, hl, rfl, hle, haa, _⟩ := e1
    obtain ⟨l2, ab, capb, hl2, rfl, hle2, hab, _⟩ := e2
    split at hx
    · rename_i csa csb ro ga gb
      obtain ⟨ho, hx⟩ := (guardT_all _ _).1 hx
      have ho : oa < csa.length := Nat.lt_of_succ_le (Nat.le_of_ble_eq_true ho)
      have hQ : ∀ bb : Bool, Q (.y (.v (.bool bb)), h) := fun bb => by
        cases bb with
        | false => exact hx 0 (by omega)
        | true => exact hx 1 (by omega)
      suffices hs : ∃ (bb : Bool) (w' : World), (Extern.SlicesOverlaps.overlaps #[tS, tS] #[tR] #[.slice (some aa) la capa, .slice (some ab) lb capb]).run P w = .ok (.bool bb) w' ∧ (w' = w ∨ w' = w.drew) by
        obtain ⟨bb, w', h1, h2⟩ := hs
        refine ⟨_, w', h1, .y (.v (.bool bb)), h, ν, hQ bb, rfl, ?_⟩
        rcases h2 with rfl | rfl
        · exact ⟨hr, Ext.refl _ _ _⟩
        · exact ⟨hr.same rfl ⟨rfl, rfl, rfl⟩, Ext.same rfl⟩
      change ∃ (bb : Bool) (w' : World), Sem.run P (α := Value) (do
        let some t := (#[tS, tS] : Array TypeId)[0]? | stuck "slices.overlaps: no parameter types"
        let .slice elem ← underlying t | stuck "slices.overlaps: slice type expected"
        let size ← sizeOf elem
        match (some aa : Option Addr), (some ab : Option Addr) with
        | some a, some b =>
          if la = 0 ∨ lb = 0 ∨ size = 0 then pure (Value.bool false)
          else if a.block != b.block && (← frozen a) && (← frozen b) then unsupported .addressObserved
          else do
            if a.block != b.block then do
              noView a; noView b
              if ← mayBeOne a b then return Value.bool ((← choose (.extern "sameAddr.stringBytes" 2)) == 1)
            pure (Value.bool (a.block == b.block && a.off < b.off + lb * size && b.off < a.off + la * size))
        | _, _ => pure (Value.bool false)) w = .ok (.bool bb) w' ∧ (w' = w ∨ w' = w.drew)
      by_cases h0 : la = 0 ∨ lb = 0 ∨ size = 0
      · exact ⟨false, w, by simp [run_underlying ht, hz, h0], .inl rfl⟩
      · obtain rfl := haa.resolve_left (by omega)
        obtain rfl := hab.resolve_left (by omega)
        obtain ⟨cc, tt, fr, q1, q2, q3⟩ := hr.obj a _ l ga hl
        obtain ⟨q4, q5, q6⟩ := q3 rfl
        obtain ⟨cc2, tt2, fr2, p1, _, _⟩ := hr.obj b _ l2 gb hl2
        have hsa : w.shape? l.blk = some (tt, cc.size) := by simp [World.shape?, q1]
        have hsb : w.shape? l2.blk = some (tt2, cc2.size) := by simp [World.shape?, p1]
        have hfa : w.frozen? ⟨l.blk, l.base + oa, none⟩ = false := by
          have := q6 oa (by omega)
          simp only [World.frozen?, q1, Bool.and_eq_false_iff, decide_eq_false_iff_not]
          by_cases hf : fr.1 ≤ l.base + oa
          · exact .inr fun hh => this ⟨hf, hh⟩
          · exact .inl hf
        by_cases hbl : l.blk = l2.blk
        · have hnb : (l.blk != l2.blk) = false := by simpa using hbl
          refine ⟨l.blk == l2.blk && decide (l.base + oa < l2.base + ob + lb * size) && decide (l2.base + ob < l.base + oa + la * size), w, ?_, .inl rfl⟩
          simp [run_underlying ht, hz, h0, hnb]
        · have hnb : (l.blk != l2.blk) = true := by simpa using hbl
          have hnb' : (l.blk == l2.blk) = false := by simpa using hbl
          obtain ⟨q, hq⟩ := mayBeOne_run (P := P) ⟨l.blk, l.base + oa, none⟩ ⟨l2.blk, l2.base + ob, none⟩ _ _ hsa hsb
          have n1 := noView_run (P := P) ⟨l.blk, l.base + oa, none⟩ _ hsa
          have n2 := noView_run (P := P) ⟨l2.blk, l2.base + ob, none⟩ _ hsb
          cases q with
          | false => exact ⟨false, w, by simp [run_underlying ht, hz, h0, hnb, hnb', frozen, Sem.run, hfa, n1, n2, hq], .inl rfl⟩
          | true => exact ⟨_, w.drew, by simp [run_underlying ht, hz, h0, hnb, hnb', frozen, Sem.run, hfa, n1, n2, hq, choose]; rfl, .inr rfl⟩
    · exact hx.elim
  · exact hx.elim
end
end Go.Abs
