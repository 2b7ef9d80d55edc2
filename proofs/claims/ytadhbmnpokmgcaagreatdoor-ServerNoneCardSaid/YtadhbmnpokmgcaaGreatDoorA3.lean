/- Laws of the interpreter's outcomes, tries and memory. -/
import Derived.Test.YtadhbmnpokmgcaaGreatDoorA2
import Derived.Laws.BitsLemmas
namespace Go.Abs
open Go

section T
variable {α β : Type} {Q : α → Prop}
@[simp] theorem T.bind_ret (a : α) (f : α → T β) : (T.ret a).bind f = f a := rfl
@[simp] theorem T.bind_fail (f : α → T β) : (T.fail : T α).bind f = .fail := rfl
@[simp] theorem T.bind_ask (n : Nat) (k : Nat → T α) (f : α → T β) : (T.ask n k).bind f = .ask n fun i => (k i).bind f := rfl
@[simp] theorem T.all_ret (a : α) : (T.ret a).all Q = Q a := rfl
@[simp] theorem T.all_fail : (T.fail : T α).all Q = False := rfl
@[simp] theorem T.all_ask (n : Nat) (k : Nat → T α) : (T.ask n k).all Q = ∀ i, i < n → (k i).all Q := rfl

theorem T.all_bind (t : T α) (f : α → T β) (R : β → Prop) : (t.bind f).all R ↔ t.all fun a => (f a).all R := by
  induction t with
  | ret a => simp
  | fail => simp
  | ask n k ih => simp only [T.bind_ask, T.all_ask, ih]

theorem T.all_mono {R : α → Prop} (h : ∀ a, Q a → R a) (t : T α) (ht : t.all Q) : t.all R := by
  induction t with
  | ret a => exact h a ht
  | fail => exact ht
  | ask n k ih => exact fun i hi => ih i (ht i hi)

theorem T.all_and {R : α → Prop} (t : T α) (h1 : t.all Q) (h2 : t.all R) : t.all fun a => Q a ∧ R a := by
  induction t with
  | ret a => exact ⟨h1, h2⟩
  | fail => exact h1
  | ask n k ih => exact fun i hi => ih i (h1 i hi) (h2 i hi)

theorem okO_all (x : Option α) (f : α → T β) (R : β → Prop) : (okO x f).all R ↔ ∃ a, x = some a ∧ (f a).all R := by
  cases x <;> simp [okO]

theorem guardT_all (b : Bool) (t : T α) : (guardT b t).all Q ↔ b = true ∧ t.all Q := by
  cases b <;> simp [guardT]

theorem X.k_all (x : X) (f : Y → T β) (R : β → Prop) : (x.k f).all R ↔ ∃ a, x = .y a ∧ (f a).all R := by
  cases x <;> simp [X.k]

theorem X.kv_all (x : X) (f : V → T β) (R : β → Prop) : (x.kv f).all R ↔ ∃ v, x = .y (.v v) ∧ (f v).all R := by
  cases x with
  | tup l => simp [X.kv]
  | y a => cases a <;> simp [X.kv]

theorem V.knat_all (v : V) (f : Nat → T β) (R : β → Prop) : (v.knat f).all R ↔ ∃ k n, v = .int k (.ofNat n) ∧ (f n).all R := by
  constructor
  · intro h
    cases v with
    | int k n =>
      cases n with
      | ofNat m => exact ⟨k, m, rfl, h⟩
      | negSucc m => exact h.elim
    | _ => exact h.elim
  · rintro ⟨k, n, rfl, h⟩
    exact h

theorem bif_all (b : Bool) (t u : T α) : (bif b then t else u).all Q ↔ (b = true ∧ t.all Q) ∨ (b = false ∧ u.all Q) := by
  cases b <;> simp
end T

section Tr
variable {α : Type}
@[simp] theorem Tr.get_e (i : Nat) : (Tr.e : Tr α).get i = none := rfl
theorem Tr.get_n (x : Option α) (l r : Tr α) (i : Nat) :
    (Tr.n x l r).get i = if i = 0 then x else if i % 2 = 1 then l.get (i / 2) else r.get (i / 2 - 1) := by
  show (bif Nat.beq i 0 then x else bif Nat.beq (Nat.mod i 2) 1 then l.get (Nat.div i 2) else r.get (Nat.sub (Nat.div i 2) 1)) = _
  by_cases h0 : i = 0
  · subst h0; rfl
  · have hb : Nat.beq i 0 = false := by cases h : Nat.beq i 0 with | false => rfl | true => exact absurd (Nat.eq_of_beq_eq_true h) h0
    rw [hb, if_neg h0]
    by_cases h1 : i % 2 = 1
    · have : Nat.beq (Nat.mod i 2) 1 = true := by rw [show Nat.mod i 2 = i % 2 from rfl, h1]; rfl
      rw [this, if_pos h1]; rfl
    · have : Nat.beq (Nat.mod i 2) 1 = false := by cases h : Nat.beq (Nat.mod i 2) 1 with | false => rfl | true => exact absurd (Nat.eq_of_beq_eq_true h) h1
      rw [this, if_neg h1]; rfl

theorem Tr.setF_succ (x : Option α) (fuel : Nat) (t : Tr α) (i : Nat) :
    Tr.setF x (fuel + 1) t i =
      match t with
      | .e => if i = 0 then .n x .e .e else if i % 2 = 1 then .n none (Tr.setF x fuel .e (i / 2)) .e else .n none .e (Tr.setF x fuel .e (i / 2 - 1))
      | .n y l r => if i = 0 then .n x l r else if i % 2 = 1 then .n y (Tr.setF x fuel l (i / 2)) r else .n y l (Tr.setF x fuel r (i / 2 - 1)) := by
  have e0 : Nat.beq i 0 = decide (i = 0) := by cases i <;> rfl
  have e1 : Nat.beq (Nat.mod i 2) 1 = decide (i % 2 = 1) := by
    rw [show Nat.mod i 2 = i % 2 from rfl]
    rcases Nat.mod_two_eq_zero_or_one i with h | h <;> rw [h] <;> rfl
  cases t with
  | e =>
    show (bif Nat.beq i 0 then _ else bif Nat.beq (Nat.mod i 2) 1 then _ else _) = _
    rw [e0, e1]
    by_cases h0 : i = 0 <;> by_cases h1 : i % 2 = 1 <;> simp [h0, h1] <;> rfl
  | n y l r =>
    show (bif Nat.beq i 0 then _ else bif Nat.beq (Nat.mod i 2) 1 then _ else _) = _
    rw [e0, e1]
    by_cases h0 : i = 0 <;> by_cases h1 : i % 2 = 1 <;> simp [h0, h1] <;> rfl

theorem Tr.get_setF (x : Option α) : ∀ (fuel : Nat) (t : Tr α) (i j : Nat), i < fuel → (Tr.setF x fuel t i).get j = if i = j then x else t.get j := by
  intro fuel
  induction fuel with
  | zero => intro t i j h; omega
  | succ fuel ih =>
    intro t i j h
    rw [Tr.setF_succ]
    cases t with
    | e =>
      simp only
      by_cases h0 : i = 0
      · subst h0
        rw [if_pos rfl, Tr.get_n]
        by_cases hj : j = 0
        · rw [if_pos hj, if_pos hj.symm]
        · have hj' : ¬ (0 = j) := fun e => hj e.symm
          simp [hj, hj']
      · rw [if_neg h0]
        by_cases h1 : i % 2 = 1
        · rw [if_pos h1, Tr.get_n]
          by_cases hj : j = 0
          · rw [if_pos hj, if_neg (by omega)]; rfl
          · rw [if_neg hj]
            by_cases hj1 : j % 2 = 1
            · rw [if_pos hj1, ih _ _ _ (by omega)]
              by_cases e : i = j
              · rw [if_pos e, if_pos (by omega)]
              · rw [if_neg e, if_neg (by omega)]; simp
            · rw [if_neg hj1, if_neg (by intro e; subst e; exact hj1 h1)]; simp
        · rw [if_neg h1, Tr.get_n]
          by_cases hj : j = 0
          · rw [if_pos hj, if_neg (by omega)]; rfl
          · rw [if_neg hj]
            by_cases hj1 : j % 2 = 1
            · rw [if_pos hj1, if_neg (by intro e; subst e; exact h1 hj1)]; simp
            · rw [if_neg hj1, ih _ _ _ (by omega)]
              by_cases e : i = j
              · rw [if_pos e, if_pos (by omega)]
              · rw [if_neg e, if_neg (by omega)]; simp
    | n y l r =>
      simp only
      by_cases h0 : i = 0
      · subst h0
        rw [if_pos rfl, Tr.get_n, Tr.get_n]
        by_cases hj : j = 0
        · rw [if_pos hj, if_pos hj.symm]
        · have hj' : ¬ (0 = j) := fun e => hj e.symm
          simp [hj, hj']
      · rw [if_neg h0]
        by_cases h1 : i % 2 = 1
        · rw [if_pos h1, Tr.get_n, Tr.get_n]
          by_cases hj : j = 0
          · rw [if_pos hj, if_neg (by omega), if_pos hj]
          · rw [if_neg hj, if_neg hj]
            by_cases hj1 : j % 2 = 1
            · rw [if_pos hj1, if_pos hj1, ih _ _ _ (by omega)]
              by_cases e : i = j
              · rw [if_pos e, if_pos (by omega)]
              · rw [if_neg e, if_neg (by omega)]
            · rw [if_neg hj1, if_neg hj1, if_neg (by intro e; subst e; exact hj1 h1)]
        · rw [if_neg h1, Tr.get_n, Tr.get_n]
          by_cases hj : j = 0
          · rw [if_pos hj, if_neg (by omega), if_pos hj]
          · rw [if_neg hj, if_neg hj]
            by_cases hj1 : j % 2 = 1
            · rw [if_pos hj1, if_pos hj1, if_neg (by intro e; subst e; exact h1 hj1)]
            · rw [if_neg hj1, if_neg hj1, ih _ _ _ (by omega)]
              by_cases e : i = j
              · rw [if_pos e, if_pos (by omega)]
              · rw [if_neg e, if_neg (by omega)]

theorem Tr.get_set (t : Tr α) (i j : Nat) (x : Option α) : (t.set i x).get j = if i = j then x else t.get j := Tr.get_setF x (i + 1) t i j (by omega)
end Tr

theorem H.get_put (h : H) (b k : Nat) (o : O) : (h.put b o).get k = if b = k then some o else h.get k := Tr.get_set _ _ _ _
theorem H.get_kill (h : H) (b k : Nat) : (h.kill b).get k = if b = k then none else h.get k := Tr.get_set _ _ _ _
theorem H.get_new (h : H) (k : Nat) (o : O) : (h.new o).get k = if h.next = k then some o else h.get k := Tr.get_set _ _ _ _
@[simp] theorem H.next_put (h : H) (b : Nat) (o : O) : (h.put b o).next = h.next := rfl
@[simp] theorem H.next_kill (h : H) (b : Nat) : (h.kill b).next = h.next := rfl
@[simp] theorem H.next_new (h : H) (o : O) : (h.new o).next = h.next + 1 := rfl

theorem Env.get_put (e : Env) (i j : Nat) (x : X) (hi : i < e.n) : (e.put i x).get j = if i = j then x else e.get j := by
  have : Nat.blt i e.n = true := Nat.ble_eq_true_of_le hi
  simp only [Env.put, this, cond_true, Env.get, Tr.get_set]
  split <;> rfl
theorem Env.put_out (e : Env) (i : Nat) (x : X) (hi : ¬ i < e.n) : e.put i x = e := by
  have : Nat.blt i e.n = false := by
    cases h : Nat.blt i e.n with
    | false => rfl
    | true => exact absurd (Nat.le_of_ble_eq_true h) hi
  simp [Env.put, this]
@[simp] theorem Env.n_put (e : Env) (i : Nat) (x : X) : (e.put i x).n = e.n := by unfold Env.put; cases Nat.blt i e.n <;> rfl
@[simp] theorem Env.marks_put (e : Env) (i : Nat) (x : X) : (e.put i x).marks = e.marks := by unfold Env.put; cases Nat.blt i e.n <;> rfl
@[simp] theorem Env.n_putD (e : Env) (d : Option Tmp) (x : X) : (e.putD d x).n = e.n := by cases d <;> simp [Env.putD]
@[simp] theorem Env.marks_putD (e : Env) (d : Option Tmp) (x : X) : (e.putD d x).marks = e.marks := by cases d <;> simp [Env.putD]

/-! ### Plain equalities -/
theorem blt_iff (a b : Nat) : Nat.blt a b = true ↔ a < b := by
  constructor
  · exact fun h => Nat.le_of_ble_eq_true h
  · exact fun h => Nat.ble_eq_true_of_le h
theorem blt_dec (a b : Nat) : Nat.blt a b = decide (a < b) := by rw [Bool.eq_iff_iff, blt_iff, decide_eq_true_iff]
theorem beq_dec (a b : Nat) : Nat.beq a b = decide (a = b) := by
  rw [Bool.eq_iff_iff, decide_eq_true_iff]; exact Nat.beq_eq ▸ Iff.rfl

theorem two63_eq : two63 = 9223372036854775808 := by unfold two63; exact Eq.refl _

theorem wrapV_eq (k : IntKind) (n : Int) : wrapV k n = k.wrap n := by
  cases k with
  | i64 =>
    cases n with
    | ofNat m =>
      show (bif Nat.blt m two63 then Int.ofNat m else IntKind.wrap .i64 (.ofNat m)) = _
      cases hb : Nat.blt m two63 with
      | false => exact cond_false _ _
      | true =>
        have hm : m < two63 := (blt_iff m two63).1 hb
        rw [two63_eq] at hm
        refine (cond_true _ _).trans ?_
        rw [IntKind.wrap_i64, show Int.ofNat m = (m : Int) from rfl]
        clear hb
        omega
    | negSucc m =>
      show (bif Nat.blt m two63 then Int.negSucc m else IntKind.wrap .i64 (.negSucc m)) = _
      cases hb : Nat.blt m two63 with
      | false => exact cond_false _ _
      | true =>
        have hm : m < two63 := (blt_iff m two63).1 hb
        rw [two63_eq] at hm
        refine (cond_true _ _).trans ?_
        obtain ⟨z, hz⟩ : ∃ z, z = Int.negSucc m := ⟨_, rfl⟩
        have e : z = -((m : Int) + 1) := hz.trans (Int.negSucc_eq m)
        rw [← hz, IntKind.wrap_i64]
        clear hb hz
        omega
  | u8 =>
    cases n with
    | ofNat m =>
      show ((m % 256 : Nat) : Int) = _
      rw [IntKind.wrap_u8, show Int.ofNat m = (m : Int) from rfl]
      omega
    | negSucc m => rfl
  | _ => rfl

theorem intEq_eq (a b : Int) : intEq a b = (a == b) := by
  rw [Bool.eq_iff_iff, beq_iff_eq]
  cases a with
  | ofNat m =>
    cases b with
    | ofNat n => simp only [intEq, beq_dec, decide_eq_true_iff]; show m = n ↔ (m : Int) = (n : Int); omega
    | negSucc n => simp [intEq]
  | negSucc m =>
    cases b with
    | ofNat n => simp [intEq]
    | negSucc n => simp only [intEq, beq_dec, decide_eq_true_iff]; omega

theorem intLt_eq (a b : Int) : intLt a b = decide (a < b) := by
  rw [Bool.eq_iff_iff, decide_eq_true_iff]
  cases a with
  | ofNat m =>
    cases b with
    | ofNat n => simp only [intLt, blt_iff]; show m < n ↔ (m : Int) < (n : Int); omega
    | negSucc n => simp only [intLt]; show false = true ↔ (m : Int) < _; simp; omega
  | negSucc m =>
    cases b with
    | ofNat n => simp only [intLt]; show True ↔ _ < (n : Int); simp; omega
    | negSucc n => simp only [intLt, blt_iff]; omega

theorem bytesEq_eq : ∀ a b : List UInt8, bytesEq a b = (a == b)
  | [], [] => rfl
  | [], _ :: _ => rfl
  | _ :: _, [] => rfl
  | a :: x, b :: y => by
    have ih := bytesEq_eq x y
    simp only [bytesEq]
    by_cases h : a = b
    · subst h
      simp [ih]
    · have : Nat.beq a.toNat b.toNat = false := by
        cases hb : Nat.beq a.toNat b.toNat with
        | false => rfl
        | true => exact absurd (UInt8.toNat_inj.1 (Nat.eq_of_beq_eq_true hb)) h
      rw [this]
      simp [h]

theorem bytesLess_eq : ∀ a b : List UInt8, bytesLess a b = Op.bytesLess a b
  | [], [] => rfl
  | [], _ :: _ => rfl
  | _ :: _, [] => rfl
  | a :: x, b :: y => by
    have ih := bytesLess_eq x y
    simp only [bytesLess, Op.bytesLess]
    by_cases h : a < b
    · have : Nat.blt a.toNat b.toNat = true := (blt_iff _ _).2 (UInt8.lt_iff_toNat_lt.1 h)
      simp [this, h]
    · have : Nat.blt a.toNat b.toNat = false := by
        cases hb : Nat.blt a.toNat b.toNat with
        | false => rfl
        | true => exact absurd (UInt8.lt_iff_toNat_lt.2 ((blt_iff _ _).1 hb)) h
      rw [this]
      by_cases e : a = b
      · subst e; simp [ih, h]
      · have : Nat.beq a.toNat b.toNat = false := by
          cases hb : Nat.beq a.toNat b.toNat with
          | false => rfl
          | true => exact absurd (UInt8.toNat_inj.1 (Nat.eq_of_beq_eq_true hb)) e
        rw [this]; simp [h, e]
end Go.Abs
