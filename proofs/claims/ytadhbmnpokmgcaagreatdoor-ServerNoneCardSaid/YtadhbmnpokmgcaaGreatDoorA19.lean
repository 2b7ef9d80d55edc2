/- Regions whose order is open: what the order is bound by, and environments. -/
import Derived.Test.YtadhbmnpokmgcaaGreatDoorA18
import Derived.OrdersIn
namespace Go.Abs
open Go Go.RowKit
noncomputable section

/-! ### What is looked at ahead of a proof -/
def tmpOf : Operand → Option Nat
  | .tmp t => some t
  | _ => none

/-- The temporaries that an operation looks at. -/
def looksOf (ops : List Oper) (o : Oper) : List Nat :=
  o.op.operands.toList.filterMap tmpOf ++ (match o.guard with
   | some (g, _) => ((ops[g]?).bind (·.dst)).toList
   | none => [])

def ancStep (acc : List Nat) (es : List Edge) (s : Nat) : Nat :=
  List.rec (motive := fun _ => Nat → Nat) (fun s => s) (fun e _ ih s => ih (bif Region.binds .any e then Nat.lor (Nat.lor s (2 ^ e.on)) (acc.getD e.on 0) else s)) es s

/-- The operations ahead of each one, as bits. -/
def ancGo (l : List Oper) : List Nat → List Nat :=
  List.rec (motive := fun _ => List Nat → List Nat) (fun acc => acc) (fun o _ ih acc => ih (acc ++ [ancStep acc o.after.toList 0])) l

def memN (t : Nat) (l : List Nat) : Bool := l.any fun u => Nat.beq t u

/-- Must the two stand in an order? -/
def bound (c : Ctx) (ops : List Oper) (x y : Oper) : Bool :=
  (match x.dst with
   | some d => memN d (looksOf ops y) || (match y.dst with | some e => Nat.beq d e | none => false)
   | none => false) ||
  (match y.dst with
   | some d => memN d (looksOf ops x)
   | none => false) ||
  (decide (kindOf c x.op = .does) && decide (kindOf c y.op = .does))

def pairsOk (c : Ctx) (ops : List Oper) (bits : Nat) (y : Oper) (l : List Oper) : Nat → Bool :=
  List.rec (motive := fun _ => Nat → Bool) (fun _ => true) (fun x _ ih i => (bif Nat.testBit bits i then true else !bound c ops x y) && ih (Nat.succ i)) l

/-- Where the operations stand that do something. -/
def doesOf (c : Ctx) (l : List Oper) : Nat → List Nat :=
  List.rec (motive := fun _ => Nat → List Nat) (fun _ => []) (fun x _ ih i => bif decide (kindOf c x.op = .does) then i :: ih (Nat.succ i) else ih (Nat.succ i)) l

def planOk (anc : List Nat) (ds : List Nat) (p : Plan) (i : Nat) : Bool :=
  match planOf p i with
  | some (lo, hi) => Nat.ble lo ds.length && (ds.take lo).all (fun e => Nat.testBit (anc.getD i 0) e) && (match ds[hi]? with | some e => Nat.testBit (anc.getD e 0) i | none => true)
  | none => false

def opsOk (c : Ctx) (p : Plan) (anc ds : List Nat) (all : List Oper) (l : List Oper) : Nat → Bool :=
  List.rec (motive := fun _ => Nat → Bool) (fun _ => true) (fun o _ ih j =>
    o.after.toList.all (fun e => !Region.binds .any e || Nat.blt e.on j) && o.op.operands.toList.all operOk &&
    pairsOk c all (anc.getD j 0) o (all.take j) 0 &&
    (bif decide (kindOf c o.op = .reads) then planOk anc ds p j else true) && ih (Nat.succ j)) l

def regionOk (c : Ctx) (p : Plan) (ops : List Oper) : Bool :=
  let anc := ancGo ops []
  opsOk c p anc (doesOf c ops 0) ops ops 0

/-! ### What it tells -/
theorem ancStep_bit {acc : List Nat} {i : Nat} : ∀ (es : List Edge) (s : Nat), Nat.testBit (ancStep acc es s) i = true → Nat.testBit s i = true ∨ ∃ e ∈ es, Region.binds .any e = true ∧ (e.on = i ∨ Nat.testBit (acc.getD e.on 0) i = true)
  | [], s, h => .inl h
  | e :: es, s, h => by
    rcases ancStep_bit es _ h with h | ⟨e', he, hb, hq⟩
    · cases hb : Region.binds .any e with
      | false => rw [hb] at h; exact .inl h
      | true =>
        rw [hb] at h
        simp only [cond_true] at h
        have h : Nat.testBit ((s ||| 2 ^ e.on) ||| acc.getD e.on 0) i = true := h
        rw [Nat.testBit_or, Nat.testBit_or, Nat.testBit_two_pow] at h
        simp only [Bool.or_eq_true, decide_eq_true_eq] at h
        rcases h with (h | h) | h
        · exact .inl h
        · exact .inr ⟨e, by simp, hb, .inl h⟩
        · exact .inr ⟨e, by simp, hb, .inr h⟩
    · exact .inr ⟨e', by simp [he], hb, hq⟩

theorem ancGo_spec : ∀ (l pre : List Oper) (acc : List Nat), acc.length = pre.length →
    (∀ j i, Nat.testBit (acc.getD j 0) i = true → ∃ o, pre[j]? = some o ∧ ∃ e ∈ o.after.toList, Region.binds .any e = true ∧ (e.on = i ∨ Nat.testBit (acc.getD e.on 0) i = true)) →
    ∀ j i, Nat.testBit ((ancGo l acc).getD j 0) i = true → ∃ o, (pre ++ l)[j]? = some o ∧ ∃ e ∈ o.after.toList, Region.binds .any e = true ∧ (e.on = i ∨ Nat.testBit ((ancGo l acc).getD e.on 0) i = true)
  | [], pre, acc, _, h, j, i, hb => by rw [List.append_nil]; exact h j i hb
  | o :: l, pre, acc, hlen, h, j, i, hb => by
    have hgo : ancGo (o :: l) acc = ancGo l (acc ++ [ancStep acc o.after.toList 0]) := rfl
    rw [hgo] at hb ⊢
    have := ancGo_spec l (pre ++ [o]) (acc ++ [ancStep acc o.after.toList 0]) (by simp [hlen]) (fun j i hb => by
      have up : ∀ k i, Nat.testBit (acc.getD k 0) i = true → Nat.testBit ((acc ++ [ancStep acc o.after.toList 0]).getD k 0) i = true := by
        intro k i hk
        by_cases hlt : k < acc.length
        · simpa [List.getD, List.getElem?_append_left hlt] using hk
        · have : acc.getD k 0 = 0 := by simp [List.getD, List.getElem?_eq_none (Nat.le_of_not_lt hlt)]
          rw [this] at hk
          simp at hk
      by_cases hlt : j < acc.length
      · have hb' : Nat.testBit (acc.getD j 0) i = true := by simpa [List.getD, List.getElem?_append_left hlt] using hb
        obtain ⟨o', ho', e, he, hbe, hq⟩ := h j i hb'
        exact ⟨o', by rw [List.getElem?_append_left (by omega)]; exact ho', e, he, hbe, hq.imp id (up _ _)⟩
      · by_cases heq : j = acc.length
        · subst heq
          have hb' : Nat.testBit (ancStep acc o.after.toList 0) i = true := by simpa [List.getD] using hb
          rcases ancStep_bit _ _ hb' with h0 | ⟨e, he, hbe, hq⟩
          · simp at h0
          · exact ⟨o, by rw [hlen]; simp, e, he, hbe, hq.imp id (up _ _)⟩
        · have : (acc ++ [ancStep acc o.after.toList 0]).getD j 0 = 0 := by
            simp only [List.getD]
            rw [List.getElem?_eq_none (by simp; omega)]
            rfl
          rw [this] at hb
          simp at hb) j i hb
    simpa using this

structure RegFacts (c : Ctx) (p : Plan) (ops : List Oper) (anc ds : List Nat) : Prop where
  hanc : anc = ancGo ops []
  hds : ds = doesOf c ops 0
  edges : ∀ (j : Nat) (o : Oper), ops[j]? = some o → ∀ e ∈ o.after.toList, Region.binds .any e = true → e.on < j
  operands : ∀ (j : Nat) (o : Oper), ops[j]? = some o → o.op.operands.toList.all operOk = true
  pairs : ∀ (i j : Nat) (x y : Oper), i < j → ops[i]? = some x → ops[j]? = some y → bound c ops x y = true → Nat.testBit (anc.getD j 0) i = true
  plans : ∀ (j : Nat) (o : Oper), ops[j]? = some o → kindOf c o.op = .reads → planOk anc ds p j = true

theorem pairsOk_spec {c : Ctx} {ops : List Oper} {bits : Nat} {y : Oper} : ∀ (l : List Oper) (k : Nat), pairsOk c ops bits y l k = true → ∀ (i : Nat) (x : Oper), l[i]? = some x → bound c ops x y = true → Nat.testBit bits (k + i) = true
  | [], _, _, i, x, hx, _ => by simp at hx
  | z :: l, k, h, i, x, hx, hb => by
    have h : ((bif Nat.testBit bits k then true else !bound c ops z y) && pairsOk c ops bits y l (Nat.succ k)) = true := h
    simp only [Bool.and_eq_true] at h
    cases i with
    | zero =>
      simp at hx
      subst hx
      rw [Nat.add_zero]
      cases ht : Nat.testBit bits k with
      | true => rfl
      | false => rw [ht] at h; simp [hb] at h
    | succ i =>
      have := pairsOk_spec l (Nat.succ k) h.2 i x (by simpa using hx) hb
      rw [show k + (i + 1) = Nat.succ k + i by omega]
      exact this

theorem opsOk_spec {c : Ctx} {p : Plan} {anc ds : List Nat} {all : List Oper} : ∀ (l : List Oper) (k : Nat), opsOk c p anc ds all l k = true → ∀ (i : Nat) (o : Oper), l[i]? = some o →
    (∀ e ∈ o.after.toList, Region.binds .any e = true → e.on < k + i) ∧ o.op.operands.toList.all operOk = true ∧ pairsOk c all (anc.getD (k + i) 0) o (all.take (k + i)) 0 = true ∧ (kindOf c o.op = .reads → planOk anc ds p (k + i) = true)
  | [], _, _, i, o, ho => by simp at ho
  | z :: l, k, h, i, o, ho => by
    have h : (z.after.toList.all (fun e => !Region.binds .any e || Nat.blt e.on k) && z.op.operands.toList.all operOk &&
      pairsOk c all (anc.getD k 0) z (all.take k) 0 && (bif decide (kindOf c z.op = .reads) then planOk anc ds p k else true) && opsOk c p anc ds all l (Nat.succ k)) = true := h
    simp only [Bool.and_eq_true] at h
    cases i with
    | zero =>
      simp at ho
      subst ho
      refine ⟨fun e he hb => ?_, h.1.1.1.2, h.1.1.2, fun hk => ?_⟩
      · have := List.all_eq_true.1 h.1.1.1.1 e he
        rw [hb] at this
        exact (blt_iff _ _).1 (by simpa using this)
      · have := h.1.2
        rw [hk] at this
        simpa using this
    | succ i =>
      have := opsOk_spec l (Nat.succ k) h.2 i o (by simpa using ho)
      rw [show k + (i + 1) = Nat.succ k + i by omega]
      exact this

theorem regionOk_facts {c : Ctx} {p : Plan} {ops : List Oper} (h : regionOk c p ops = true) : RegFacts c p ops (ancGo ops []) (doesOf c ops 0) := by
  have key := opsOk_spec ops 0 h
  simp only [Nat.zero_add] at key
  refine ⟨rfl, rfl, fun j o ho => (key j o ho).1, fun j o ho => (key j o ho).2.1, fun i j x y hij hx hy hb => ?_, fun j o ho hk => (key j o ho).2.2.2 hk⟩
  have := pairsOk_spec _ 0 (key j y hy).2.2.1 i x (by rw [List.getElem?_take, if_pos hij]; exact hx) hb
  simpa using this

/-- A set of operations that holds with each one what stands ahead of it. -/
def Closed (ops : List Oper) (S : Nat → Bool) : Prop := ∀ (j : Nat) (o : Oper), ops[j]? = some o → S j = true → ∀ e ∈ o.after.toList, Region.binds .any e = true → S e.on = true

theorem Closed.anc {c : Ctx} {p : Plan} {ops : List Oper} {anc ds : List Nat} (hf : RegFacts c p ops anc ds) {S : Nat → Bool} (hS : Closed ops S) :
    ∀ (j i : Nat), S j = true → Nat.testBit (anc.getD j 0) i = true → S i = true := by
  intro j
  induction j using Nat.strongRecOn with
  | ind j ih =>
    intro i hj hb
    rw [hf.hanc] at hb
    obtain ⟨o, ho, e, he, hbe, hq⟩ := ancGo_spec ops [] [] rfl (fun j i h => by simp at h) j i hb
    rw [List.nil_append] at ho
    have hlt := hf.edges j o ho e he hbe
    have hs := hS j o ho hj e he hbe
    rcases hq with rfl | hq
    · exact hs
    · rw [← hf.hanc] at hq
      exact ih _ hlt i hs hq

/-- What stands ahead of an operation that is next. -/
theorem Closed.next {c : Ctx} {p : Plan} {ops : List Oper} {anc ds : List Nat} (hf : RegFacts c p ops anc ds) {S : Nat → Bool} (hS : Closed ops S) {j : Nat} {o : Oper} (ho : ops[j]? = some o)
    (hr : ∀ e ∈ o.after.toList, Region.binds .any e = true → S e.on = true) {i : Nat} (hb : Nat.testBit (anc.getD j 0) i = true) : S i = true := by
  rw [hf.hanc] at hb
  obtain ⟨o', ho', e, he, hbe, hq⟩ := ancGo_spec ops [] [] rfl (fun j i h => by simp at h) j i hb
  rw [List.nil_append, ho] at ho'
  cases ho'
  have hs := hr e he hbe
  rcases hq with rfl | hq
  · exact hs
  · rw [← hf.hanc] at hq
    exact hS.anc hf _ _ hs hq
end
end Go.Abs
