/- Regions whose order is open: readings, what is done, and the whole. -/
import Derived.Test.YtadhbmnpokmgcaaGreatDoorA23
namespace Go.Abs
open Go Go.RowKit

theorem exists_aug (h g : H) (hn : True) : ∀ L : List Nat, ∃ g' : H, g'.next = h.next ∧ ∀ b, g'.get b = if b ∈ L then g.get b else h.get b
  | [] => ⟨h, rfl, fun b => by simp⟩
  | x :: L => by
    obtain ⟨g1, h1, h2⟩ := exists_aug h g hn L
    cases hx : g.get x with
    | none =>
      refine ⟨g1.kill x, by rw [H.next_kill]; exact h1, fun b => ?_⟩
      rw [H.get_kill, h2]
      by_cases hb : x = b
      · subst hb; simp [hx]
      · have hb' : b ≠ x := fun e => hb e.symm
        simp [hb, hb']
    | some o =>
      refine ⟨g1.put x o, by rw [H.next_put]; exact h1, fun b => ?_⟩
      rw [H.get_put, h2]
      by_cases hb : x = b
      · subst hb; simp [hx]
      · have hb' : b ≠ x := fun e => hb e.symm
        simp [hb, hb']

theorem blockOf_named {ν : Ren} {env : Env} {a : Act} {o : Op} {b : Nat} (hk : ∀ c : Call, o = .call c → ∀ x, c.args.toList = [x] → x ∈ o.operands.toList) (he : EvR ν env a o.operands.toList) (hb : blockOf env o = some b) : ∃ l, ν b = some l := by
  cases o with
  | load t p =>
    simp only [blockOf] at hb
    split at hb
    · rename_i b' off h
      cases hb
      obtain ⟨l, hl, _⟩ := (he p (by simp [Op.operands])).v h
      exact ⟨l, hl⟩
    · cases hb
  | lookup t m k ok =>
    simp only [blockOf] at hb
    split at hb
    · rename_i b' h
      cases hb
      obtain ⟨l, hl, _⟩ := (he m (by simp [Op.operands])).v h
      exact ⟨l, hl⟩
    · cases hb
  | convert s d x =>
    simp only [blockOf] at hb
    split at hb
    · rename_i b' _ _ _ _ h
      cases hb
      obtain ⟨l, _, _, hl, _⟩ := (he x (by simp [Op.operands])).v h
      exact ⟨l, hl⟩
    · cases hb
  | call c' =>
    simp only [blockOf] at hb
    split at hb
    · rename_i x h1
      split at hb
      · rename_i b' h
        cases hb
        obtain ⟨l, hl, _⟩ := (he x (hk c' rfl x h1)).v h
        exact ⟨l, hl⟩
      · cases hb
    · cases hb
  | _ => cases hb

theorem doesOf_mem {c : Ctx} : ∀ (l : List Oper) (k e : Nat), e ∈ doesOf c l k ↔ ∃ (i : Nat) (o : Oper), l[i]? = some o ∧ kindOf c o.op = .does ∧ e = k + i
  | [], k, e => by simp [show doesOf c [] k = [] from rfl]
  | o :: l, k, e => by
    have hd : doesOf c (o :: l) k = bif decide (kindOf c o.op = .does) then k :: doesOf c l (Nat.succ k) else doesOf c l (Nat.succ k) := rfl
    have ih := doesOf_mem (c := c) l (Nat.succ k) e
    constructor
    · intro h
      rw [hd] at h
      by_cases hk : kindOf c o.op = .does
      · simp only [hk, decide_true, cond_true, List.mem_cons] at h
        rcases h with rfl | h
        · exact ⟨0, o, rfl, hk, rfl⟩
        · obtain ⟨i, o', h1, h2, h3⟩ := ih.1 h
          exact ⟨i + 1, o', by simpa using h1, h2, by omega⟩
      · simp only [hk, decide_false, cond_false] at h
        obtain ⟨i, o', h1, h2, h3⟩ := ih.1 h
        exact ⟨i + 1, o', by simpa using h1, h2, by omega⟩
    · rintro ⟨i, o', h1, h2, h3⟩
      rw [hd]
      cases i with
      | zero =>
        simp at h1
        subst h1
        simp [h2, h3]
      | succ i =>
        have : e ∈ doesOf c l (Nat.succ k) := ih.2 ⟨i, o', by simpa using h1, h2, by omega⟩
        by_cases hk : kindOf c o.op = .does
        · simp [hk, this]
        · simp [hk, this]

theorem doesOf_lt {c : Ctx} : ∀ (l : List Oper) (k : Nat), (doesOf c l k).Pairwise (· < ·)
  | [], k => List.Pairwise.nil
  | o :: l, k => by
    have hd : doesOf c (o :: l) k = bif decide (kindOf c o.op = .does) then k :: doesOf c l (Nat.succ k) else doesOf c l (Nat.succ k) := rfl
    rw [hd]
    have ih := doesOf_lt (c := c) l (Nat.succ k)
    cases decide (kindOf c o.op = .does) with
    | false => exact ih
    | true =>
      refine List.Pairwise.cons (fun e he => ?_) ih
      obtain ⟨i, _, _, _, h⟩ := (doesOf_mem l _ e).1 he
      omega

theorem snapsOf_eq {c : Ctx} {hN : H} {Hf : Nat → H} : ∀ (l : List Step) (k : Nat), (∀ (i : Nat) (s : Step), l[i]? = some s → s.h = Hf (k + i)) →
    snapsOf c l k hN = (doesOf c (l.map (·.o)) k).map (fun p => (p, Hf p)) ++ [(k + l.length, hN)]
  | [], k, _ => rfl
  | s :: l, k, h => by
    have ih := snapsOf_eq (c := c) (hN := hN) (Hf := Hf) l (Nat.succ k) (fun i s' hs => by
      rw [show Nat.succ k + i = k + (i + 1) by omega]
      exact h (i + 1) s' (by simpa using hs))
    have h0 := h 0 s rfl
    have hd : doesOf c ((s :: l).map (·.o)) k = bif decide (kindOf c s.o.op = .does) then k :: doesOf c (l.map (·.o)) (Nat.succ k) else doesOf c (l.map (·.o)) (Nat.succ k) := rfl
    rw [snapsOf, hd, ih]
    cases decide (kindOf c s.o.op = .does) with
    | false => simp only [cond_false, List.length_cons]; congr 3; omega
    | true =>
      simp only [cond_true, List.map_cons, List.cons_append, List.length_cons]
      rw [h0]
      congr 4
      omega

theorem stableAt_spec {c : Ctx} {all : List Step} {base b : Nat} {s : Step} : ∀ (ps : List (Nat × H)), stableAt c all base b s ps = true → ∀ p ∈ ps, ∃ h, lookAt all base b p = some h ∧ readOp c h s.env s.o.op = some s.x
  | [], _, p, hp => by cases hp
  | q :: ps, h, p, hp => by
    unfold stableAt at h
    rw [Bool.and_eq_true] at h
    rcases List.mem_cons.1 hp with rfl | hp
    · have h := h.1
      cases hl : lookAt all base b p with
      | none => rw [hl] at h; cases h
      | some hh =>
        rw [hl] at h
        simp only at h
        cases hr : readOp c hh s.env s.o.op with
        | none => rw [hr] at h; cases h
        | some x =>
          rw [hr] at h
          have : x = s.x := of_decide_eq_true h
          subst this
          exact ⟨hh, rfl, hr⟩
    · exact stableAt_spec ps h.2 p hp

theorem stable_spec {c : Ctx} {p : Plan} {ops : List Oper} {all : List Step} {snaps : List (Nat × H)} {base : Nat} : ∀ (l : List Step) (k : Nat), stable c p ops all snaps base l k = true → ∀ (i : Nat) (s : Step), l[i]? = some s →
    kindOf c s.o.op = .reads → wantedV ops s.env s.o = some true → ∃ lo hi, planOf p (k + i) = some (lo, hi) ∧ ∀ b, blockOf s.env s.o.op = some b → stableAt c all base b s ((snaps.drop lo).take (hi + 1 - lo)) = true
  | [], _, _, i, s, hs, _, _ => by simp at hs
  | t :: l, k, h, i, s, hs, hk, hw => by
    unfold stable at h
    rw [Bool.and_eq_true] at h
    cases i with
    | zero =>
      simp at hs
      subst hs
      have h := h.1
      simp only [hk, hw, decide_true, Bool.and_self, cond_true] at h
      rw [Nat.add_zero]
      cases hp : planOf p k with
      | none => rw [hp] at h; cases hb : blockOf t.env t.o.op <;> rw [hb] at h <;> cases h
      | some q =>
        obtain ⟨lo, hi⟩ := q
        refine ⟨lo, hi, rfl, fun b hb => ?_⟩
        rw [hp, hb] at h
        exact h
    | succ i =>
      obtain ⟨lo, hi, h1, h2⟩ := stable_spec l (Nat.succ k) h.2 i s (by simpa using hs) hk hw
      exact ⟨lo, hi, by rw [show k + (i + 1) = Nat.succ k + i by omega]; exact h1, h2⟩

namespace RegCtx
section
variable {R : RegCtx} (ok : R.Ok) {q : Nat} {S : Nat → Bool} {ν : Ren} {g : H} {a : Act} {w : World}

theorem isLay_lt {i : Nat} (h : R.isLay i) : i < R.ops.length := by
  obtain ⟨o, ho, _⟩ := h
  exact (List.getElem?_eq_some_iff.1 ho).1

theorem Inv.sub (v : Inv R q S ν g a w) : ∀ b o, (R.Hh q).get b = some o → g.get b = some o := fun b o hb => by
  rw [v.geq b fun i hi hs hl e => ?_]
  · exact hb
  · subst e
    rw [v.hnone i hi (isLay_lt hl)] at hb
    cases hb

include ok in
/-- Behind an operation that does something. -/
theorem afterDoes (v : Inv R q S ν g a w) {o : Oper} (ho : R.ops[q]? = some o) (hd : kindOf R.c o.op = .does) (hrd : R.Ready S o) {ν' : Ren} {w' : World} {u : Value}
    (hr : HR R.K R.B R.w0 ν' (R.Hh (q + 1)) w') (he : Ext ν (R.Hh q) w ν' (R.Hh (q + 1)) w') (hu : XR ν' (R.xs q) u) : ∃ g', Inv R (q + 1) (add S q) ν' g' (a.put o.dst u) w' := by
  classical
  have hlt : q < R.ops.length := (List.getElem?_eq_some_iff.1 ho).1
  have hS : S q = false := v.hi q (Nat.le_refl _) ⟨o, ho, hd⟩
  obtain ⟨g', n1, n2⟩ := exists_aug (R.Hh (q + 1)) g trivial (((List.range R.ops.length).filter fun i => decide (q + 1 ≤ i ∧ S i = true ∧ R.isLay i)).map (R.base + ·))
  have mem : ∀ b, b ∈ (((List.range R.ops.length).filter fun i => decide (q + 1 ≤ i ∧ S i = true ∧ R.isLay i)).map (R.base + ·)) ↔ ∃ i, q + 1 ≤ i ∧ S i = true ∧ R.isLay i ∧ b = R.base + i := by
    intro b
    simp only [List.mem_map, List.mem_filter, List.mem_range, decide_eq_true_eq]
    constructor
    · rintro ⟨i, ⟨_, h1, h2, h3⟩, rfl⟩; exact ⟨i, h1, h2, h3, rfl⟩
    · rintro ⟨i, h1, h2, h3, rfl⟩; exact ⟨i, ⟨isLay_lt h3, h1, h2, h3⟩, rfl⟩
  refine ⟨g', ?_⟩
  exact {
    qn := hlt
    lo := fun k hk hdk => by
      by_cases hkq : k = q
      · subst hkq; exact add_self _ _
      · rw [add_ne hkq]; exact v.lo k (by omega) hdk
    hi := fun k hk hdk => by rw [add_ne (by omega)]; exact v.hi k (by omega) hdk
    closed := closedAdd v ho hrd
    hr := v.hr.aug v.sub v.gnext he hr n1 fun b => by
      rw [n2]
      by_cases hb : b ∈ (((List.range R.ops.length).filter fun i => decide (q + 1 ≤ i ∧ S i = true ∧ R.isLay i)).map (R.base + ·))
      · rw [if_pos hb]
        obtain ⟨i, h1, h2, h3, rfl⟩ := (mem b).1 hb
        exact .inr ⟨rfl, v.hnone i (by omega) (isLay_lt h3)⟩
      · rw [if_neg hb]; exact .inl rfl
    gnext := n1
    geq := fun b hb => by
      rw [n2, if_neg]
      intro hm
      obtain ⟨i, h1, h2, h3, rfl⟩ := (mem b).1 hm
      exact hb i h1 (by unfold add; rw [h2, Bool.true_or]) h3 rfl
    gearly := fun i hi hs hl => by
      rw [add_ne (by omega)] at hs
      rw [n2, if_pos ((mem _).2 ⟨i, hi, hs, hl, rfl⟩)]
      exact v.gearly i (by omega) hs hl
    hnone := fun i hi hin => by
      cases hg : (R.Hh (q + 1)).get (R.base + i) with
      | none => rfl
      | some o' =>
        obtain ⟨o0, h0, _⟩ := he.live _ o' (by have := v.room; omega) hg
        rw [v.hnone i (by omega) hin] at h0
        cases h0
    nun := fun k hk hs => he.newdom _ (v.nun k hk (hs.imp (fun h => (add_false h).1) id)) (by have := v.room; omega)
    late := fun k hk hs hl => by
      obtain ⟨hs1, hs2⟩ := add_false hs
      have hlt2 := isLay_lt hl
      rcases he.phantom (R.base + k) (by have := v.room; omega) (v.nun k hlt2 (.inl hs1)) with e | e
      · rw [e]
        exact v.late k (by omega) hs1 hl
      · exact .inr e
    env := envAdd ok v he.le ho hS hu
    ext := v.ext.trans ok.dom he
    room := by have := v.room; have := he.next; omega
    defers := by rw [put_defers]; exact v.defers }

include ok in
/-- What a reading gives in a state on the way. -/
theorem readHere (v : Inv R q S ν g a w) (hq : q < R.ops.length → R.isDoes q) {all : List Step} (hall : ∀ (i : Nat) (o : Oper), R.ops[i]? = some o → all[i]? = some ⟨o, R.E i, R.Hh i, R.xs i, R.Hh (i + 1)⟩) (hlen : all.length = R.ops.length)
    (hst : stable R.c R.p R.ops all (snapsOf R.c all 0 (R.Hh R.ops.length)) R.base all 0 = true)
    {i : Nat} {o : Oper} (ho : R.ops[i]? = some o) (hi : S i = false) (hrd : R.Ready S o) (hk : kindOf R.c o.op = .reads) (hw : wantedV R.ops (R.E i) o = some true) :
    readOp R.c g (R.E i) o.op = some (R.xs i) := by
  have hread := (drawStep_reads (ok.step i o ho) hw hk).1
  obtain ⟨lo, hi', hpl, hstb⟩ := stable_spec all 0 hst i _ (hall i o ho) hk hw
  rw [Nat.zero_add] at hpl
  simp only at hstb
  cases hb : blockOf (R.E i) o.op with
  | none =>
    rw [readOp_block (g := R.Hh i) hk (fun b h => by rw [hb] at h; cases h)]
    exact hread
  | some b =>
    have hstb := hstb b hb
    obtain ⟨l, hl⟩ := blockOf_named (fun c' e x hx => by rw [e]; simp [Op.operands, Call.operands, hx]) (evR ok v ho hi hrd) hb
    -- the place at which we stand
    have hds := ok.facts.hds
    have hplan := ok.facts.plans i o ho hk
    unfold planOk at hplan
    rw [hpl] at hplan
    simp only [Bool.and_eq_true] at hplan
    obtain ⟨⟨hlo, htake⟩, hhi⟩ := hplan
    have hlo := Nat.le_of_ble_eq_true hlo
    have hsn : snapsOf R.c all 0 (R.Hh R.ops.length) = R.ds.map (fun p => (p, R.Hh p)) ++ [(R.ops.length, R.Hh R.ops.length)] := by
      have hmap : all.map (·.o) = R.ops := by
        apply List.ext_getElem?
        intro k
        rw [List.getElem?_map]
        cases hk : R.ops[k]? with
        | none => rw [List.getElem?_eq_none (by rw [hlen]; exact List.getElem?_eq_none_iff.1 hk)]; rfl
        | some o' => rw [hall k o' hk]; rfl
      rw [snapsOf_eq (Hf := R.Hh) all 0 (fun k s hs => by
        have hlt : k < R.ops.length := by have := (List.getElem?_eq_some_iff.1 hs).1; omega
        rw [hall k _ (List.getElem?_eq_getElem hlt)] at hs
        cases hs
        rw [Nat.zero_add]), hmap, hds, Nat.zero_add, hlen]
    obtain ⟨m, hm1, hm2⟩ : ∃ m, (R.ds.map (fun p => (p, R.Hh p)) ++ [(R.ops.length, R.Hh R.ops.length)])[m]? = some (q, R.Hh q) ∧ (R.ds[m]? = some q ∨ (m = R.ds.length ∧ q = R.ops.length)) := by
      by_cases hlt : q < R.ops.length
      · obtain ⟨oq, hoq, hdq⟩ := hq hlt
        have : q ∈ R.ds := by rw [hds]; exact (doesOf_mem _ _ _).2 ⟨q, oq, hoq, hdq, by omega⟩
        obtain ⟨m, hm⟩ := List.mem_iff_getElem?.1 this
        refine ⟨m, ?_, .inl hm⟩
        rw [List.getElem?_append_left (by rw [List.length_map]; exact (List.getElem?_eq_some_iff.1 hm).1), List.getElem?_map, hm]
        rfl
      · have hqn : q = R.ops.length := by have := v.qn; omega
        refine ⟨R.ds.length, ?_, .inr ⟨rfl, hqn⟩⟩
        rw [List.getElem?_append_right (by simp)]
        simp [hqn]
    have hlom : lo ≤ m := by
      rcases hm2 with hm2 | ⟨rfl, _⟩
      · rcases Nat.lt_or_ge m lo with hml | hml
        · have hmem : q ∈ R.ds.take lo := List.mem_iff_getElem?.2 ⟨m, by rw [List.getElem?_take, if_pos hml]; exact hm2⟩
          have hbit := List.all_eq_true.1 htake q hmem
          have hsq := v.closed.next ok.facts ho hrd hbit
          have hdq : R.isDoes q := by
            have : q ∈ doesOf R.c R.ops 0 := by rw [← hds]; exact List.mem_of_getElem? hm2
            obtain ⟨k, ok', h1, h2, h3⟩ := (doesOf_mem _ _ _).1 this
            rw [Nat.zero_add] at h3
            subst h3
            exact ⟨ok', h1, h2⟩
          rw [v.hi q (Nat.le_refl _) hdq] at hsq
          cases hsq
        · exact hml
      · exact hlo
    have hmhi : m ≤ hi' := by
      rcases Nat.lt_or_ge hi' m with hlt | hge
      · exfalso
        have hex : ∃ e, R.ds[hi']? = some e ∧ e < q := by
          rcases hm2 with hm2 | ⟨rfl, hqn⟩
          · have hlt1 : hi' < R.ds.length := by have := (List.getElem?_eq_some_iff.1 hm2).1; omega
            refine ⟨_, List.getElem?_eq_getElem hlt1, ?_⟩
            have hpw := doesOf_lt (c := R.c) R.ops 0
            rw [← hds] at hpw
            have hm3 := (List.getElem?_eq_some_iff.1 hm2)
            have := (List.pairwise_iff_getElem.1 hpw) hi' m hlt1 hm3.1 hlt
            rw [hm3.2] at this
            exact this
          · refine ⟨_, List.getElem?_eq_getElem hlt, ?_⟩
            have hmem : R.ds[hi'] ∈ doesOf R.c R.ops 0 := by rw [← hds]; exact List.getElem_mem hlt
            obtain ⟨k, ok', h1, h2, h3⟩ := (doesOf_mem _ _ _).1 hmem
            have := (List.getElem?_eq_some_iff.1 h1).1
            omega
        obtain ⟨e, he, heq⟩ := hex
        rw [he] at hhi
        simp only at hhi
        have hde : R.isDoes e := by
          have : e ∈ doesOf R.c R.ops 0 := by rw [← hds]; exact List.mem_of_getElem? he
          obtain ⟨k, ok', h1, h2, h3⟩ := (doesOf_mem _ _ _).1 this
          rw [Nat.zero_add] at h3
          subst h3
          exact ⟨ok', h1, h2⟩
        have := v.closed.anc ok.facts e i (v.lo e heq hde) hhi
        rw [hi] at this
        cases this
      · exact hge
    have hmem : (q, R.Hh q) ∈ ((snapsOf R.c all 0 (R.Hh R.ops.length)).drop lo).take (hi' + 1 - lo) := by
      refine List.mem_iff_getElem?.2 ⟨m - lo, ?_⟩
      rw [List.getElem?_take, if_pos (by omega), List.getElem?_drop, show lo + (m - lo) = m by omega, hsn]
      exact hm1
    obtain ⟨hh, hlook, hrd2⟩ := stableAt_spec _ hstb _ hmem
    unfold lookAt at hlook
    simp only at hrd2
    cases hcond : (Nat.ble R.base b && Nat.blt q (b - R.base)) with
    | false =>
      rw [hcond] at hlook
      cases hlook
      rw [readOp_block (g := R.Hh q) hk]
      · exact hrd2
      · intro b' hb'
        rw [hb] at hb'
        cases hb'
        refine v.geq b fun k hk' hs hlay e => ?_
        subst e
        have hkq : k ≠ q := by
          rintro rfl
          obtain ⟨o1, h1, h2⟩ := hq (isLay_lt hlay)
          obtain ⟨o2, h3, h4, _⟩ := hlay
          rw [h1] at h3
          cases h3
          rw [h2] at h4
          cases h4
        have : (Nat.ble R.base (R.base + k) && Nat.blt q (R.base + k - R.base)) = true := by
          rw [Bool.and_eq_true]
          exact ⟨Nat.ble_eq_true_of_le (by omega), (blt_iff _ _).2 (by omega)⟩
        rw [this] at hcond
        cases hcond
    | true =>
      rw [Bool.and_eq_true] at hcond
      have h1 := Nat.le_of_ble_eq_true hcond.1
      have h2 := (blt_iff _ _).1 hcond.2
      have hc2 : (Nat.ble R.base b && Nat.blt q (b - R.base)) = true := by rw [Bool.and_eq_true]; exact hcond
      rw [hc2] at hlook
      simp only [cond_true, Option.map_eq_some_iff] at hlook
      obtain ⟨t, ht, rfl⟩ := hlook
      obtain ⟨k, rfl⟩ : ∃ k, b = R.base + k := ⟨b - R.base, by omega⟩
      have hkk : R.base + k - R.base = k := by omega
      rw [hkk] at ht h2
      have hklt : k < R.ops.length := by have := (List.getElem?_eq_some_iff.1 ht).1; omega
      rw [hall k _ (List.getElem?_eq_getElem hklt)] at ht
      cases ht
      have hsk : S k = true ∧ R.isLay k := by
        refine Classical.byContradiction fun hn => ?_
        have : ν (R.base + k) = none := v.nun k hklt (by
          cases hS : S k with
          | false => exact .inl rfl
          | true => exact .inr fun hl => hn ⟨hS, hl⟩)
        rw [this] at hl
        cases hl
      rw [readOp_block (g := R.Hh (k + 1)) hk]
      · exact hrd2
      · intro b' hb'
        rw [hb] at hb'
        cases hb'
        exact v.gearly k (by omega) hsk.1 hsk.2
end
end RegCtx
end Go.Abs
