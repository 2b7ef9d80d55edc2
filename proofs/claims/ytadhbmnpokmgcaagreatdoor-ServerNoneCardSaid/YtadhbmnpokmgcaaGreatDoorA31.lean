/- All outcomes made one. -/
import Derived.Test.YtadhbmnpokmgcaaGreatDoorA30
namespace Go.Abs
open Go Go.RowKit

/-- What one memory tells, the other tells. -/
def Tells (h g : H) : Prop := g.next ≤ h.next ∧ ∀ b o, h.get b = some o → g.get b = some o

theorem Tells.refl (h : H) : Tells h h := ⟨Nat.le_refl _, fun _ _ h => h⟩
theorem Tells.trans {a b d : H} (h : Tells a b) (k : Tells b d) : Tells a d := ⟨Nat.le_trans k.1 h.1, fun x o hx => k.2 x o (h.2 x o hx)⟩

theorem sameO_eq {a b : O} (h : sameO a b = true) : a = b := by
  unfold sameO at h
  split at h
  · rename_i a r b s
    rw [Bool.and_eq_true] at h
    have h1 : a = b := of_decide_eq_true h.1
    have h2 : r = s := by simpa using h.2
    rw [h1, h2]
  · rename_i a n b m
    rw [Bool.and_eq_true] at h
    have h1 : a = b := of_decide_eq_true h.1
    have h2 : n = m := Nat.eq_of_beq_eq_true h.2
    rw [h1, h2]
  · rfl
  · cases h

theorem joinTr_get : ∀ (t u : Tr O) (b : Nat) (o : O), (joinTr t u).get b = some o → t.get b = some o ∧ u.get b = some o := by
  intro t
  induction t with
  | e => intro u b o h; cases h
  | n x l r ihl ihr =>
    intro u b o
    cases u with
    | e => intro h; cases h
    | n y l' r' =>
      have hj : joinTr (.n x l r) (.n y l' r') = .n (match x, y with | some a, some b => bif sameO a b then some a else none | _, _ => none) (joinTr l l') (joinTr r r') := rfl
      rw [hj]
      intro h
      rw [Tr.get_n] at h
      rw [Tr.get_n, Tr.get_n]
      by_cases h0 : b = 0
      · simp only [h0, if_true] at h ⊢
        cases x with
        | none => cases h
        | some a =>
          cases y with
          | none => cases h
          | some a' =>
            simp only at h
            cases hs : sameO a a' with
            | false => rw [hs] at h; cases h
            | true =>
              rw [hs] at h
              cases h
              exact ⟨rfl, by rw [sameO_eq hs]⟩
      · simp only [h0, if_false] at h ⊢
        by_cases h1 : b % 2 = 1
        · simp only [h1, if_true] at h ⊢
          exact ihl l' _ o h
        · simp only [h1, if_false] at h ⊢
          exact ihr r' _ o h

theorem leaves_all {α : Type} : ∀ (t : T α) (L : List α), leaves t = some L → t.all fun p => p ∈ L := by
  intro t
  induction t with
  | ret a => intro L h; cases h; exact List.mem_singleton.2 rfl
  | fail => intro L h; cases h
  | ask n k ih =>
    intro L h i hi
    have key : ∀ (m : Nat) (L : List α), (Nat.rec (motive := fun _ => Option (List α)) (some []) (fun i r => r.bind fun l => (leaves (k i)).map (· ++ l)) m) = some L → ∀ i, i < m → ∃ Li, leaves (k i) = some Li ∧ ∀ p ∈ Li, p ∈ L := by
      intro m
      induction m with
      | zero => intro L _ i hi; omega
      | succ m ihm =>
        intro L h i hi
        simp only [Option.bind_eq_some_iff, Option.map_eq_some_iff] at h
        obtain ⟨l0, h0, lm, hm, rfl⟩ := h
        by_cases him : i = m
        · subst him
          exact ⟨lm, hm, fun p hp => List.mem_append_left _ hp⟩
        · obtain ⟨Li, h1, h2⟩ := ihm l0 h0 i (by omega)
          exact ⟨Li, h1, fun p hp => List.mem_append_right _ (h2 p hp)⟩
    obtain ⟨Li, h1, h2⟩ := key n L h i hi
    exact T.all_mono h2 (k i) (ih i Li h1)

theorem joinAll_spec {x : X} : ∀ (l : List (X × H)) (h h' : H), joinAll x h l = some h' → Tells h' h ∧ ∀ p ∈ l, p.1 = x ∧ Tells h' p.2
  | [], h, h', hj => by cases hj; exact ⟨Tells.refl _, fun p hp => by cases hp⟩
  | (y, g) :: l, h, h', hj => by
    unfold joinAll at hj
    cases hx : decide (x = y) with
    | false => rw [hx] at hj; cases hj
    | true =>
      rw [hx] at hj
      have hxy := of_decide_eq_true hx
      obtain ⟨h1, h2⟩ := joinAll_spec l _ h' hj
      have t1 : Tells { next := max h.next g.next, tr := joinTr h.tr g.tr } h := ⟨Nat.le_max_left _ _, fun b o hb => (joinTr_get _ _ b o hb).1⟩
      have t2 : Tells { next := max h.next g.next, tr := joinTr h.tr g.tr } g := ⟨Nat.le_max_right _ _, fun b o hb => (joinTr_get _ _ b o hb).2⟩
      refine ⟨h1.trans t1, fun p hp => ?_⟩
      rcases List.mem_cons.1 hp with rfl | hp
      · exact ⟨hxy.symm, h1.trans t2⟩
      · exact h2 p hp

theorem joinRes_all {t : Res} {Q : X × H → Prop} (h : (joinRes t).all Q) : t.all fun p => ∃ h', Q (p.1, h') ∧ Tells h' p.2 := by
  cases t with
  | ret p => exact ⟨p.2, h, Tells.refl _⟩
  | fail => exact h.elim
  | ask n k =>
    have h : (match leaves (T.ask n k) with
      | some ((x, h) :: rest) => okO (joinAll x h rest) fun h' => .ret (x, h')
      | _ => .fail : Res).all Q := h
    cases hl : leaves (T.ask n k) with
    | none => rw [hl] at h; exact h.elim
    | some L =>
      rw [hl] at h
      cases L with
      | nil => exact h.elim
      | cons p rest =>
        obtain ⟨x, h0⟩ := p
        obtain ⟨h', hj, hQ⟩ := okO_some h
        obtain ⟨h1, h2⟩ := joinAll_spec rest h0 h' hj
        refine T.all_mono (fun p hp => ?_) _ (leaves_all _ _ hl)
        rcases List.mem_cons.1 hp with rfl | hp
        · exact ⟨h', hQ, h1⟩
        · obtain ⟨e1, e2⟩ := h2 p hp
          exact ⟨h', by rw [e1]; exact hQ, e2⟩

section
variable {K : CodeP} {B : Nat} {w0 w w' : World} {ν ν' : Ren} {h h' g : H}

theorem HR.tells (hr : HR K B w0 ν g w) (ht : Tells h g) : HR K B w0 ν h w :=
  ⟨fun b l hb => Nat.lt_of_lt_of_le (hr.dom b l hb) ht.1, fun b o l hb hl => hr.obj b o l (ht.2 b o hb) hl, fun b b' o o' l l' hne hb hb' => hr.sep b b' o o' l l' hne (ht.2 b o hb) (ht.2 b' o' hb'),
    fun b o l hb => hr.new b o l (ht.2 b o hb), hr.below, hr.size, fun b o hb => Nat.lt_of_lt_of_le (hr.wf b o (ht.2 b o hb)) ht.1⟩

theorem Ext.tells (e : Ext ν h w ν' g w') (ht : Tells h' g) : Ext ν h w ν' h' w' where
  le := e.le
  newdom := e.newdom
  next := Nat.le_trans e.next ht.1
  phantom := fun b hb hn => by
    cases hg : h'.get b with
    | none => exact .inr rfl
    | some o =>
      have h1 := ht.2 b o hg
      rcases e.phantom b hb hn with e1 | e1
      · rw [h1] at e1; exact .inl e1
      · rw [h1] at e1; cases e1
  frame := e.frame
  size := e.size
  fresh := e.fresh
  live := fun b o' hb ho => e.live b o' hb (ht.2 b o' ho)

theorem RetEnd.tells {Q : X × H → Prop} {e : Ending} (h1 : RetEnd K B w0 ν h w (fun p => ∃ h', Q (p.1, h') ∧ Tells h' p.2) e w') : RetEnd K B w0 ν h w Q e w' := by
  cases e with
  | returned v =>
    obtain ⟨x, g, ν', ⟨h', hQ, ht⟩, hx, hr, he⟩ := h1
    exact ⟨x, h', ν', hQ, hx, hr.tells ht, he.tells ht⟩
  | panicked ch => exact h1.elim
  | outgrown => exact h1.elim
end
end Go.Abs
